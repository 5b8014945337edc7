/- Walks: the deferred closure of paths.caught. -/
import Derived.Test.YtmbgaaoneaplmaaDoorD6
import Derived.Tactics
import Derived.Tactics2
import Derived.Defers
import Derived.Recover
import Derived.Laws.Pointers
namespace Go.Proofs.YtmbgaaoneaplmaaDoor
open Go.RowKit

set_option maxHeartbeats 1000000 in
set_option maxRecDepth 100000 in
theorem catch_idle (p q : Addr) (w : World) :
    CallsD Tryd.prog 93 #[.pointer (some p), .pointer (some q)] .returning w fun e u' w' => e = .returned (.tuple #[]) ∧ u' = .returning ∧ w' = w := by
  refine callsD_of_wpS Tryd.func93 rfl fun c₀ cs hu => ?_
  apply wpS_seq
  apply wpS_region
  simp [wpOpsS, go_sem, recoverD, hu, Tryd.ntmps93, Exit.thenS]
  apply wpS_seq
  apply wpS_region
  simp [wpOpsS, go_sem, recoverD, Exit.thenS]
  refine wpS_cond (t := false) (by simp [Act.eval, Array.replicate]) ?_
  simp only [Bool.false_eq_true, if_false]
  refine wpS_of_wp (wp_skip ?_)
  cases c₀
  simp_all [bodyPostS, results, Tryd.results93]

theorem assert122 (W : World) (v : Value) : (Instr.typeAssert (.iface 122 v) 20 122 true).run Tryd.prog W = .ok (.tuple #[v, .bool true]) W := by
  simp [Instr.typeAssert, run_underlying Tryd.underlying122]

set_option maxHeartbeats 1000000 in
set_option maxRecDepth 100000 in
theorem catch_panicking (B b q : Nat) (k n z : Int) (t : ByteArray) (A : Option Addr) (m c : Nat) (older : List PanicEntry) (w : World) (hv : VarAt w b k n t A m c) (hq : w.cell? ⟨q, 0, none⟩ = some (.int .i64 z)) (hz : w.frozen? ⟨q, 0, none⟩ = false) (hne : b ≠ q) (hB : B ≤ b) (hB' : B ≤ q) :
    CallsD Tryd.prog 93 #[.pointer (some ⟨b, 0, none⟩), .pointer (some ⟨q, 0, none⟩)] (.panicking ({ v := .iface 122 (.agg #[.int .i64 260]), recovered := false } :: older)) w fun e u' w' =>
      e = .returned (.tuple #[]) ∧ u' = .panicking ({ v := .iface 122 (.agg #[.int .i64 260]), recovered := true } :: older) ∧ VarAt w' b 0 0 ⟨#[]⟩ none 0 0 ∧ w'.cell? ⟨q, 0, none⟩ = some (.int .i64 260) ∧ Below B w w' := by
  refine callsD_of_wpS Tryd.func93 rfl fun c₀ cs hu => ?_
  apply wpS_seq
  apply wpS_region
  simp [wpOpsS, go_sem, recoverD, hu, Tryd.ntmps93, Exit.thenS]
  apply wpS_seq
  apply wpS_region
  simp [wpOpsS, go_sem, recoverD, Exit.thenS]
  refine wpS_cond (t := true) (by simp [Act.eval, Array.replicate]) ?_
  simp only [if_true]
  refine wpS_of_wp ?_
  have HV := Lib.hid hv
  have hta := fun W => assert122 W (.agg #[.int .i64 260])
  obtain ⟨⟨z0, z1, z2, z3⟩, f0, f1, f2, f3⟩ := hv
  change Code.wp _ _ _ { tmps := #[.pointer (some ⟨b, 0, none⟩), .pointer (some ⟨q, 0, none⟩), .iface 122 (.agg #[.int .i64 260]), undef, undef, .iface 122 (.agg #[.int .i64 260]), .iface 122 (.agg #[.int .i64 260]), .bool true, undef, undef, undef, undef, undef, undef, undef, undef, undef, undef, undef], defers := [] } w
  have hbl : b < w.heap.size := HV.out.1.lt
  have hql : q < w.heap.size := World.block_lt_of_cell? w ⟨q, 0, none⟩ hq
  have hne' : q ≠ b := fun h => hne h.symm
  have hb1 : b ≠ w.heap.size := by omega
  have hq1 : q ≠ w.heap.size := by omega
  go_wp2_with fail
  go_region
  all_goals
    go_wp2_with fail
    have hq' : (set4 w b 0 0 ⟨#[]⟩ none 0 0).cell? ⟨q, 0, none⟩ = some (.int .i64 z) := by
      simp only [World.cell?, set4_block q hne'] at hq ⊢
      exact hq
    have hV9 : VarAt (((set4 w b 0 0 ⟨#[]⟩ none 0 0).setCell ⟨q, 0, none⟩ (.int .i64 260)).alloc (.cells #[.int .i64 260] 122)).drew b 0 0 ⟨#[]⟩ none 0 0 := ((set4_var HV.out).move (Below.heap_setCell _ _ _ _ hne)).later ((Bl.refl _).al _).dr
    have hQ9 : (((set4 w b 0 0 ⟨#[]⟩ none 0 0).setCell ⟨q, 0, none⟩ (.int .i64 260)).alloc (.cells #[.int .i64 260] 122)).drew.cell? ⟨q, 0, none⟩ = some (.int .i64 260) := cell_later (a := ⟨q, 0, none⟩) ((Bl.refl _).al _).dr (by simp [go_sem, hq'])
    have hB9 : Below B w (((set4 w b 0 0 ⟨#[]⟩ none 0 0).setCell ⟨q, 0, none⟩ (.int .i64 260)).alloc (.cells #[.int .i64 260] 122)).drew := (((set4_below (Below.refl _ _) hB).setCell (p := ⟨q, 0, none⟩) hB' _).alloc (by simp [set4_size]; omega) _).drew_
    change bodyPostS _ _ _ _ _ _ _ _ (((set4 w b 0 0 ⟨#[]⟩ none 0 0).setCell ⟨q, 0, none⟩ (.int .i64 260)).alloc (.cells #[.int .i64 260] 122)).drew
    generalize (((set4 w b 0 0 ⟨#[]⟩ none 0 0).setCell ⟨q, 0, none⟩ (.int .i64 260)).alloc (.cells #[.int .i64 260] 122)).drew = W9 at *
    simp [bodyPostS, results, Tryd.results93, hV9, hQ9, hB9]
end Go.Proofs.YtmbgaaoneaplmaaDoor
