/- Walks: paths.caught. -/
import Derived.Test.YtmbgaaoneaplmaaDoorE1
namespace Go.Proofs.YtmbgaaoneaplmaaDoor
open Go.RowKit

/-- What a caught try tells. -/
noncomputable def caughtF : Option Val → Val × Int
  | none => (vz, 260)
  | some y => if rightB y = true then (y, 0) else (vz, 2)

/-- The two named results. -/
abbrev two0 (w : World) : World := (w.alloc (.cells #[.int .i64 0, .int .i64 0, .string ⟨#[]⟩, .slice none 0 0] 24)).alloc (.cells #[.int .i64 0] 25)

set_option maxHeartbeats 1000000 in
set_option maxRecDepth 100000 in
theorem caught_none (g : Nat) (caps : Array Value) (ok : Nat → Prop) (w : World) (hcf : ∀ W : World, (callFunc g caps).run Tryd.prog W = .ok (.enter g caps) W) (h : Calls Tryd.prog g caps (two0 w) fun e w' => e = .panicked [{ v := .iface 122 (.agg #[.int .i64 260]), recovered := false }] ∧ Below (two0 w).heap.size (two0 w) w') :
    Calls Tryd.prog 43 #[.func (.func g) #[] caps] w (RetV2 ok vz (.int .i64 260) w) := by
  have hmf : ∀ (fn : Fn) (first cap : Array Value) (w : World), (Instr.makeFunc fn first cap).run Tryd.prog w = .ok (.func fn first cap) w := fun _ _ _ _ => rfl
  replace h := Lib.hid h
  go_enter_defers Tryd.func43, Tryd.ntmps43
  go_wp2_with fail
  refine h.out.mono ?_
  rintro e w1 ⟨rfl, hb⟩
  go_wp2_with fail
  have hlt : w.heap.size + 1 < (two0 w).heap.size := by simp
  have hv := (VarAt.new w 0 0 ⟨#[]⟩ none 0 0 24).al1 hb
  have hq : w1.cell? ⟨w.heap.size + 1, 0, none⟩ = some (.int .i64 0) := cell_later hb (by simp)
  have hz : w1.frozen? ⟨w.heap.size + 1, 0, none⟩ = false := (hb.frozen (p := ⟨w.heap.size + 1, 0, none⟩) hlt).trans (by simp)
  have hB1 : Below w.heap.size w w1 := ((((Bl.refl _).al _).al _).call hb)
  refine leaves_cons (f := 93) (args := #[.pointer (some ⟨w.heap.size, 0, none⟩), .pointer (some ⟨w.heap.size + 1, 0, none⟩)]) (by simp) (by simp [go_sem]) ?_
  refine (catch_panicking w.heap.size w.heap.size (w.heap.size + 1) 0 0 0 ⟨#[]⟩ none 0 0 [] _ hv hq hz (by omega) (Nat.le_refl _) (by omega)).mono ?_
  rintro e u' w2 ⟨rfl, rfl, hV, hQ, hB⟩
  obtain ⟨⟨z0, z1, z2, z3⟩, _⟩ := hV
  have hfin : RetV2 ok vz (.int .i64 260) w (.returned (.tuple #[.agg #[.int .i64 0, .int .i64 0, .string ⟨#[]⟩, .slice none 0 0], .int .i64 260])) w2 := ⟨_, rfl, IsV_vz _ _, hB1.trans hB⟩
  simp [Leaves, settle, results, Tryd.results43, go_sem, z0, z1, z2, z3, hQ]
  exact hfin
theorem call44 (caps : Array Value) (W : World) : (callFunc 44 caps).run Tryd.prog W = .ok (.enter 44 caps) W := by
  have h1 : (Tryd.f44.name == "runtime.NumGoroutine") = false := by kernel_rfl
  have h2 : Tryd.f44.body.isNone = false := by kernel_rfl
  simp at h1
  simp [callFunc, Tryd.func44, h1]
  intro h
  rw [h] at h2
  cases h2
end Go.Proofs.YtmbgaaoneaplmaaDoor
