/- Walks: paths.caught, where what comes back is not right. -/
import Derived.Test.YtmbgaaoneaplmaaDoorE3
import Derived.Deep.Cut
namespace Go.Proofs.YtmbgaaoneaplmaaDoor
open Go.RowKit

set_option maxHeartbeats 2000000 in
set_option maxRecDepth 100000 in
theorem caught_no (g : Nat) (caps : Array Value) (y : Val) (ok ok' : Nat → Prop) (w : World) (hcf : ∀ W : World, (callFunc g caps).run Tryd.prog W = .ok (.enter g caps) W) (hT : Lib.Utf8Tabs 1 2 w) (hok : ∀ k, ok k → k < w.heap.size) (hr : rightB y = false)
    (h : Calls Tryd.prog g caps (two0 w) (RetV (fun k => ok k ∨ (two0 w).heap.size ≤ k) y (two0 w))) :
    Calls Tryd.prog 43 #[.func (.func g) #[] caps] w (RetV2 ok' vz (.int .i64 2) w) := by
  have hmf : ∀ (fn : Fn) (first cap : Array Value) (w : World), (Instr.makeFunc fn first cap).run Tryd.prog w = .ok (.func fn first cap) w := fun _ _ _ _ => rfl
  replace h := Lib.hid h
  replace hT := Lib.hid hT
  replace hr := Lib.hid hr
  go_enter_defers Tryd.func43, Tryd.ntmps43
  go_wp2_with fail
  refine h.out.mono ?_
  rintro e w1 ⟨v1, rfl, ⟨A1, c1, rfl, ht1, S1⟩, hb⟩
  have hv := (VarAt.new w 0 0 ⟨#[]⟩ none 0 0 24).al1 hb
  have hs2 : (two0 w).heap.size = w.heap.size + 2 := by simp
  have hlt : w.heap.size + 1 < (two0 w).heap.size := by omega
  have hq : w1.cell? ⟨w.heap.size + 1, 0, none⟩ = some (.int .i64 0) := cell_later hb (by simp)
  have hz : w1.frozen? ⟨w.heap.size + 1, 0, none⟩ = false := (hb.frozen (p := ⟨w.heap.size + 1, 0, none⟩) hlt).trans (by simp)
  have hB1 : Below w.heap.size w w1 := ((((Bl.refl _).al _).al _).call hb)
  have hs1 : w.heap.size + 2 ≤ w1.heap.size := by have := hb.size; omega
  have S1' : Sl w1 (fun k => ok k ∨ w.heap.size + 2 ≤ k) y.is A1 y.is.length c1 := Sl_mono S1 (fun k hk _ => by rw [hs2] at hk; exact hk)
  have hB2 := set4_below (k := y.k) (n := y.n) (t := y.t) (A := A1) (m := y.is.length) (c := c1) hB1 (Nat.le_refl w.heap.size)
  have hV2 := set4_var (k := y.k) (n := y.n) (t := y.t) (A := A1) (m := y.is.length) (c := c1) hv
  have S2 := Sl_set4 S1' (b := w.heap.size) (fun h => by rcases h with h | h; exact absurd (hok _ h) (by omega); omega) y.k y.n y.t A1 y.is.length c1
  have hq2 : (set4 w1 w.heap.size y.k y.n y.t A1 y.is.length c1).heap[w.heap.size + 1]? = w1.heap[w.heap.size + 1]? := set4_block _ (by omega)
  have hq3 : (set4 w1 w.heap.size y.k y.n y.t A1 y.is.length c1).cell? ⟨w.heap.size + 1, 0, none⟩ = some (.int .i64 0) := by simp only [World.cell?, hq2] at hq ⊢; exact hq
  have hz3 : (set4 w1 w.heap.size y.k y.n y.t A1 y.is.length c1).frozen? ⟨w.heap.size + 1, 0, none⟩ = false := by simp only [World.frozen?, hq2] at hz ⊢; exact hz
  have hs3 : (set4 w1 w.heap.size y.k y.n y.t A1 y.is.length c1).heap.size = w1.heap.size := set4_size
  obtain ⟨⟨z0, z1, z2, z3⟩, f0, f1, f2, f3⟩ := hv
  go_upto_region 3 with fail
  obtain ⟨W2, hW2⟩ : ∃ W2, W2 = set4 w1 w.heap.size y.k y.n y.t A1 y.is.length c1 := ⟨_, rfl⟩
  rw [← hW2] at hB2 hV2 S2 hq3 hz3 hs3
  clear hq2
  unfold set4 at hW2
  rw [← hW2]
  clear hW2 z0 z1 z2 z3 f0 f1 f2 f3 hq hz
  have HV2 := Lib.hid hV2
  have HQ3 := Lib.hid hq3
  have HZ3 := Lib.hid hz3
  obtain ⟨⟨z0, z1, z2, z3⟩, f0, f1, f2, f3⟩ := hV2
  clear hq3 hz3
  go_wp2_with fail
  refine (check_no y _ _ _ _ (Utf8Tabs_below hT.out hB2) ht1 S2 hr.out).mono ?_
  rintro e w3 ⟨rfl, hb3⟩
  have hB3 := hB2.call hb3
  have hs4 : w.heap.size + 2 ≤ w3.heap.size := by have := hb3.size; omega
  clear z0 z1 z2 z3 f0 f1 f2 f3
  have hV3 := HV2.out.later hb3
  obtain ⟨⟨z0, z1, z2, z3⟩, f0, f1, f2, f3⟩ := hV3
  have HV3 := Lib.hid (HV2.out.later hb3)
  have hq4 : w3.cell? ⟨w.heap.size + 1, 0, none⟩ = some (.int .i64 0) := cell_later hb3 HQ3.out
  have hl3 : w.heap.size + 1 < W2.heap.size := by omega
  have hz4 : w3.frozen? ⟨w.heap.size + 1, 0, none⟩ = false := (hb3.frozen (p := ⟨w.heap.size + 1, 0, none⟩) hl3).trans HZ3.out
  have hq5 : (set4 w3 w.heap.size 0 0 ⟨#[]⟩ none 0 0).cell? ⟨w.heap.size + 1, 0, none⟩ = some (.int .i64 0) := by
    have he : (set4 w3 w.heap.size 0 0 ⟨#[]⟩ none 0 0).heap[w.heap.size + 1]? = w3.heap[w.heap.size + 1]? := set4_block _ (by omega)
    simp only [World.cell?, he] at hq4 ⊢
    exact hq4
  have hB5 := (set4_below (k := 0) (n := 0) (t := ⟨#[]⟩) (A := none) (m := 0) (c := 0) hB3 (Nat.le_refl w.heap.size)).setCell (p := ⟨w.heap.size + 1, 0, none⟩) (by simp) (.int .i64 2)
  have hV5 := (set4_var (k := 0) (n := 0) (t := ⟨#[]⟩) (A := none) (m := 0) (c := 0) HV3.out).move (Below.heap_setCell (set4 w3 w.heap.size 0 0 ⟨#[]⟩ none 0 0) ⟨w.heap.size + 1, 0, none⟩ (.int .i64 2) _ (by simp))
  have hQ5 : ((set4 w3 w.heap.size 0 0 ⟨#[]⟩ none 0 0).setCell ⟨w.heap.size + 1, 0, none⟩ (.int .i64 2)).cell? ⟨w.heap.size + 1, 0, none⟩ = some (.int .i64 2) := by simp [go_sem, hq5]
  obtain ⟨W5, hW5⟩ : ∃ W5, W5 = (set4 w3 w.heap.size 0 0 ⟨#[]⟩ none 0 0).setCell ⟨w.heap.size + 1, 0, none⟩ (.int .i64 2) := ⟨_, rfl⟩
  rw [← hW5] at hB5 hV5 hQ5
  have hfin : RetV2 ok' vz (.int .i64 2) w (.returned (.tuple #[.agg #[.int .i64 0, .int .i64 0, .string ⟨#[]⟩, .slice none 0 0], .int .i64 2])) W5 := ⟨_, rfl, IsV_vz _ _, hB5⟩
  replace hfin := Lib.hid hfin
  replace hV5 := Lib.hid hV5
  replace hQ5 := Lib.hid hQ5
  clear hB5 hq5
  have hl44 : w.heap.size < w3.heap.size := by omega
  go_wp2_with fail
  unfold set4 at hW5
  rw [← hW5]
  clear hW5
  refine leaves_cons (f := 93) (args := #[.pointer (some ⟨w.heap.size, 0, none⟩), .pointer (some ⟨w.heap.size + 1, 0, none⟩)]) (by simp) (by simp [go_sem]) ?_
  refine (catch_idle ⟨w.heap.size, 0, none⟩ ⟨w.heap.size + 1, 0, none⟩ W5).mono ?_
  rintro e u' w'' ⟨rfl, rfl, rfl⟩
  obtain ⟨⟨q0, q1, q2, q3⟩, _⟩ := hV5.out
  have qq := hQ5.out
  simp [Leaves, settle, results, Tryd.results43, go_sem, q0, q1, q2, q3, qq]
  exact hfin.out
end Go.Proofs.YtmbgaaoneaplmaaDoor
