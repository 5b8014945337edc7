/- Walks: value.form. -/
import Derived.Test.YtmbgaaoneaplmaaDoorB2
import Derived.Test.YtmbgaaoneaplmaaDoorB5
namespace Go.Proofs.YtmbgaaoneaplmaaDoor
open Go.RowKit

/-- Items that rise, so many apart. -/
def Rises (s : Nat) (l : List Val) : Prop := ∀ i x y, i % s = 0 → l[i]? = some x → l[i + s]? = some y → vcmp x y < 0
open Classical in
/-- Are a value's items in their form? -/
noncomputable def formB (k : Int) (l : List Val) : Bool :=
  if k = 4 then true
  else if k = 6 then (if l.length % 2 = 1 then false else decide (Rises 2 l))
  else if k = 5 then decide (Rises 1 l)
  else decide (l.length = 0)

set_option maxHeartbeats 1000000 in
set_option maxRecDepth 100000 in
theorem form_set (n : Int) (t : ByteArray) (l : List Val) (ok : Nat → Prop) (A : Option Addr) (m c : Nat) (w : World) (hx : Sl w ok l A m c) :
    Calls Tryd.prog 135 #[.agg #[.int .i64 5, .int .i64 n, .string t, .slice A m c]] w fun e w' => e = .returned (.bool (formB 5 l)) ∧ Below w.heap.size w w' := by
  have hm : m ≤ 140737488355328 := hx.le
  go_enter Tryd.func135, Tryd.ntmps135
  go_wp2
  go_loopw [4] (fun i wr => ∃ j : Nat, i = .int .i64 ((j : Int) + 1) ∧ Hid (j = 0 ∨ j < m) ∧ Hid (∀ q x y, q < j → l[q]? = some x → l[q + 1]? = some y → vcmp x y < 0) ∧ wr.cell? ⟨w.heap.size, 3, none⟩ = some (.slice A m c) ∧ Below w.heap.size w wr) (fun i _ => m + 1 - (intOf i).toNat)
  case atStart => exact ⟨0, rfl, Lib.hid (.inl rfl), Lib.hid (by intros; omega), by simp, (Bl.refl _).al _⟩
  case round =>
    obtain ⟨j, rfl, HJ, HK, c0, hB⟩ := hrel
    by_cases hlt : (j : Int) + 1 < m
    · obtain ⟨x, hxi⟩ : ∃ x, l[j]? = some x := ⟨l[j]'(by rw [hx.1]; omega), List.getElem?_eq_getElem _⟩
      obtain ⟨y, hyi⟩ : ∃ y, l[j + 1]? = some y := ⟨l[j + 1]'(by rw [hx.1]; omega), List.getElem?_eq_getElem _⟩
      obtain ⟨bx, ox, Ax, cx, rfl, _, hbx, ex0, ex1, ex2, ex3, _, Sx⟩ := RepL_get (Sl_bl hx hB).2.2.2 hxi
      obtain ⟨by_, oy, Ay, cy, he, _, hby, ey0, ey1, ey2, ey3, _, Sy⟩ := RepL_get (Sl_bl hx hB).2.2.2 hyi
      injection he with he
      injection he with he1 he2
      subst he1; subst he2
      have HXI := Lib.hid hxi
      have HYI := Lib.hid hyi
      clear hxi hyi
      have i0 : (0 : Int) ≤ (j : Int) := by omega
      have i1 : (j : Int) < (m : Int) := by omega
      have i2 : (0 : Int) ≤ (j : Int) + 1 := by omega
      have w1 : IntKind.i64.wrap (j : Int) = (j : Int) := IntWalk.i64_in _ (by omega)
      have w2 : ((j : Int) + 1).toNat = j + 1 := by omega
      go_wp2
      go_still_tail 12, (by kernel_rfl)
      go_wp2_with fail
      refine (compare_at x y _ _ _ _ _ _ _ (Sl_bl Sx (Bl.refl _).dr) (Sl_bl Sy (Bl.refl _).dr)).mono ?_
      rintro e w3 ⟨rfl, hb⟩
      have hB1 : Below w.heap.size w w3 := hB.dr.call hb
      have d0 := cell_later (a := ⟨w.heap.size, 3, none⟩) hb c0
      clear w1 w2
      by_cases hv : vcmp x y < 0
      · have hv' : ¬ 0 ≤ vcmp x y := by omega
        have HV := Lib.hid hv
        clear hv
        go_wp2
        go_roundw
        case rel =>
          refine ⟨j + 1, by go_num, Lib.hid (.inr (by omega)), Lib.hid (fun q a b hq ha hb => ?_), d0, hB1⟩
          rcases Nat.lt_or_ge q j with h | h
          · exact HK.out q a b h ha hb
          · obtain rfl : q = j := by omega
            rw [HXI.out] at ha; rw [HYI.out] at hb
            injection ha with ha; injection hb with hb
            subst ha; subst hb; exact HV.out
        case measure => simp [intOf]; omega
      · have hv' : 0 ≤ vcmp x y := by omega
        have HV := Lib.hid hv
        clear hv
        go_wp2
        go_ret
        refine ⟨ret_bool ?_, hB1⟩
        have : ¬ Rises 1 l := fun h => absurd (h j x y (by omega) HXI.out HYI.out) (by have := HV.out; omega)
        simp [formB, this]
    · go_wp2
      go_ret
      refine ⟨ret_bool ?_, hB⟩
      have : Rises 1 l := fun q a b _ ha hb => HK.out q a b (by have := (List.getElem?_eq_some_iff.1 hb).1; rw [hx.1] at this; have := HJ.out; omega) ha hb
      simp [formB, this]

set_option maxHeartbeats 1000000 in
set_option maxRecDepth 100000 in
theorem form_map (n : Int) (t : ByteArray) (l : List Val) (ok : Nat → Prop) (A : Option Addr) (m c : Nat) (w : World) (hx : Sl w ok l A m c) (heven : m % 2 = 0) :
    Calls Tryd.prog 135 #[.agg #[.int .i64 6, .int .i64 n, .string t, .slice A m c]] w fun e w' => e = .returned (.bool (formB 6 l)) ∧ Below w.heap.size w w' := by
  have hm : m ≤ 140737488355328 := hx.le
  have hev : ((m : Int) % 2 == 1) = false := by simp; omega
  have HEV := Lib.hid heven
  clear heven
  go_enter Tryd.func135, Tryd.ntmps135
  go_wp2
  go_loopw [4] (fun i wr => ∃ j : Nat, i = .int .i64 ((j : Int) + 2) ∧ Hid ((j = 0 ∨ j < m) ∧ j % 2 = 0) ∧ Hid (∀ q x y, q < j → q % 2 = 0 → l[q]? = some x → l[q + 2]? = some y → vcmp x y < 0) ∧ wr.cell? ⟨w.heap.size, 3, none⟩ = some (.slice A m c) ∧ Below w.heap.size w wr) (fun i _ => m + 2 - (intOf i).toNat)
  case atStart => exact ⟨0, rfl, Lib.hid ⟨.inl rfl, rfl⟩, Lib.hid (by intros; omega), by simp, (Bl.refl _).al _⟩
  case round =>
    obtain ⟨j, rfl, HJ, HK, c0, hB⟩ := hrel
    by_cases hlt : (j : Int) + 2 < m
    · obtain ⟨x, hxi⟩ : ∃ x, l[j]? = some x := ⟨l[j]'(by rw [hx.1]; omega), List.getElem?_eq_getElem _⟩
      obtain ⟨y, hyi⟩ : ∃ y, l[j + 2]? = some y := ⟨l[j + 2]'(by rw [hx.1]; omega), List.getElem?_eq_getElem _⟩
      obtain ⟨bx, ox, Ax, cx, rfl, _, hbx, ex0, ex1, ex2, ex3, _, Sx⟩ := RepL_get (Sl_bl hx hB).2.2.2 hxi
      obtain ⟨by_, oy, Ay, cy, he, _, hby, ey0, ey1, ey2, ey3, _, Sy⟩ := RepL_get (Sl_bl hx hB).2.2.2 hyi
      injection he with he
      injection he with he1 he2
      subst he1; subst he2
      have HXI := Lib.hid hxi
      have HYI := Lib.hid hyi
      clear hxi hyi
      have i0 : (0 : Int) ≤ (j : Int) := by omega
      have i1 : (j : Int) < (m : Int) := by omega
      have i2 : (0 : Int) ≤ (j : Int) + 2 := by omega
      have w1 : IntKind.i64.wrap (j : Int) = (j : Int) := IntWalk.i64_in _ (by omega)
      have w2 : ((j : Int) + 2).toNat = j + 2 := by omega
      go_wp2
      go_still_tail 12, (by kernel_rfl)
      go_wp2_with fail
      refine (compare_at x y _ _ _ _ _ _ _ (Sl_bl Sx (Bl.refl _).dr) (Sl_bl Sy (Bl.refl _).dr)).mono ?_
      rintro e w3 ⟨rfl, hb⟩
      have hB1 : Below w.heap.size w w3 := hB.dr.call hb
      have d0 := cell_later (a := ⟨w.heap.size, 3, none⟩) hb c0
      clear w1 w2
      by_cases hv : vcmp x y < 0
      · have hv' : ¬ 0 ≤ vcmp x y := by omega
        have HV := Lib.hid hv
        clear hv
        go_wp2
        go_roundw
        case rel =>
          refine ⟨j + 2, by go_num, Lib.hid ⟨.inr (by omega), by have := HJ.out.2; omega⟩, Lib.hid (fun q a b hq hq2 ha hb => ?_), d0, hB1⟩
          rcases Nat.lt_or_ge q j with h | h
          · exact HK.out q a b h hq2 ha hb
          · have := HJ.out.2
            obtain rfl : q = j := by omega
            rw [HXI.out] at ha; rw [HYI.out] at hb
            injection ha with ha; injection hb with hb
            subst ha; subst hb; exact HV.out
        case measure => simp [intOf]; omega
      · have hv' : 0 ≤ vcmp x y := by omega
        have HV := Lib.hid hv
        clear hv
        go_wp2
        go_ret
        refine ⟨ret_bool ?_, hB1⟩
        have : ¬ Rises 2 l := fun h => absurd (h j x y HJ.out.2 HXI.out HYI.out) (by have := HV.out; omega)
        simp [formB, this, hx.1, HEV.out]
    · go_wp2
      go_ret
      refine ⟨ret_bool ?_, hB⟩
      have : Rises 2 l := fun q a b hq ha hb => HK.out q a b (by have := (List.getElem?_eq_some_iff.1 hb).1; rw [hx.1] at this; have := HJ.out; omega) hq ha hb
      simp [formB, this, hx.1, HEV.out]

theorem form_calls (k n : Int) (t : ByteArray) (l : List Val) (ok : Nat → Prop) (A : Option Addr) (m c : Nat) (w : World) (hx : Sl w ok l A m c) :
    Calls Tryd.prog 135 #[.agg #[.int .i64 k, .int .i64 n, .string t, .slice A m c]] w fun e w' => e = .returned (.bool (formB k l)) ∧ Below w.heap.size w w' := by
  have hm : m ≤ 140737488355328 := hx.le
  by_cases h5 : k = 5
  · subst h5; exact form_set n t l ok A m c w hx
  · by_cases h6 : k = 6
    · subst h6
      by_cases hev : m % 2 = 1
      · have hev2 : ((m : Int) % 2 == 1) = true := by simp; omega
        have HEV := Lib.hid hev
        clear hev
        go_enter Tryd.func135, Tryd.ntmps135
        go_wp2
        go_ret
        exact ⟨ret_bool (by simp [formB, hx.1, HEV.out]), (Bl.refl _).al _⟩
      · exact form_map n t l ok A m c w hx (by omega)
    · by_cases h4 : k = 4
      · subst h4
        go_enter Tryd.func135, Tryd.ntmps135
        go_wp2
        go_ret
        exact ⟨ret_bool (by simp [formB]), (Bl.refl _).al _⟩
      · obtain ⟨e4, e5, e6⟩ : (k == 4) = false ∧ (k == 5) = false ∧ (k == 6) = false := by simp; omega
        go_enter Tryd.func135, Tryd.ntmps135
        go_wp2
        go_ret
        exact ⟨ret_bool (by rw [Bool.eq_iff_iff]; simp [formB, h4, h5, h6, hx.1]), (Bl.refl _).al _⟩
end Go.Proofs.YtmbgaaoneaplmaaDoor
