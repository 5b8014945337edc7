/- Walks: slices.IndexFunc, slices.ContainsFunc at 'is it this step?'. -/
import Derived.Test.YtmbgaaoneaplmaaDoorC2
namespace Go.Proofs.YtmbgaaoneaplmaaDoor
open Go.RowKit

/-- The first place of which it is true; below 0: there is none. -/
def idxF (p : Val → Bool) (l : List Val) : Int := match l.findIdx? p with | some i => (i : Int) | none => -1
theorem idxF_hit {p : Val → Bool} {l : List Val} {j : Nat} {x : Val} (hx : l[j]? = some x) (hp : p x = true) (h : ∀ q y, q < j → l[q]? = some y → p y = false) : idxF p l = j := by
  have : l.findIdx? p = some j := by
    rw [List.findIdx?_eq_some_iff_getElem]
    obtain ⟨h1, h2⟩ := List.getElem?_eq_some_iff.1 hx
    refine ⟨h1, by rw [h2]; exact hp, fun q hq => by rw [h q _ hq (List.getElem?_eq_getElem (by omega))]; simp⟩
  simp [idxF, this]
theorem idxF_none {p : Val → Bool} {l : List Val} (h : ∀ (q : Nat) y, l[q]? = some y → p y = false) : idxF p l = -1 := by
  have : l.findIdx? p = none := by
    rw [List.findIdx?_eq_none_iff]
    intro x hx
    obtain ⟨q, hq⟩ := List.getElem?_of_mem hx
    exact h q x hq
  simp [idxF, this]
theorem idxF_any (p : Val → Bool) (l : List Val) : decide (0 ≤ idxF p l) = l.any p := by
  by_cases h : l.any p = true
  · rw [h]
    cases hf : l.findIdx? p with
    | none =>
      rw [List.findIdx?_eq_none_iff] at hf
      rw [List.any_eq_true] at h
      obtain ⟨x, hx, hp⟩ := h
      rw [hf x hx] at hp; cases hp
    | some i => simp [idxF, hf]
  · have h' : l.any p = false := by simpa using h
    rw [h']
    rw [List.any_eq_false] at h'
    rw [idxF_none (fun q y hq => by simpa using h' y (List.mem_of_getElem? hq))]
    rfl

/-- Is it this step? -/
def eqB (s x : Val) : Bool := decide (vcmp x s = 0)

set_option maxHeartbeats 400000 in
theorem partIs_calls (x s : Val) (ok ok' : Nat → Prop) (A B : Option Addr) (c d g : Nat) (w : World) (hx : Sl w ok x.is A x.is.length c) (hs : Sl w ok' s.is B s.is.length d) (hbox : BoxAt w g s.k s.n s.t B s.is.length d) (hg : g < w.heap.size) :
    Calls Tryd.prog 131 #[.agg #[.int .i64 x.k, .int .i64 x.n, .string x.t, .slice A x.is.length c], .pointer (some ⟨g, 0, none⟩)] w fun e w' => e = .returned (.bool (eqB s x)) ∧ Below w.heap.size w w' := by
  have hne : w.heap.size ≠ g := by omega
  obtain ⟨b0, b1, b2, b3⟩ := hbox
  go_enter Tryd.func131, Tryd.ntmps131
  go_wp2_with fail
  refine (equal_at x s _ _ _ _ _ _ _ (Sl_bl hx ((Bl.refl _).al _)) (Sl_bl hs ((Bl.refl _).al _))).mono ?_
  rintro e w1 ⟨rfl, hb⟩
  go_wp2
  go_ret
  exact ⟨rfl, ((Bl.refl _).al _).call hb⟩

set_option maxHeartbeats 1000000 in
set_option maxRecDepth 100000 in
theorem indexIs_calls (l : List Val) (s : Val) (ok ok' : Nat → Prop) (A B : Option Addr) (m c d g : Nat) (w : World) (hx : Sl w ok l A m c) (hs : Sl w ok' s.is B s.is.length d) (hbox : BoxAt w g s.k s.n s.t B s.is.length d) (hg : g < w.heap.size) :
    Calls Tryd.prog 72 #[.slice A m c, .func (.func 131) #[] #[.pointer (some ⟨g, 0, none⟩)]] w fun e w' => e = .returned (.int .i64 (idxF (eqB s) l)) ∧ Below w.heap.size w w' := by
  have hm : m ≤ 140737488355328 := hx.le
  have HBOX := Lib.hid hbox
  clear hbox
  go_enter Tryd.func72, Tryd.ntmps72
  go_wp2
  go_loopw [8] (fun i wr => ∃ j : Nat, i = .int .i64 j ∧ j ≤ m ∧ Hid (∀ q y, q < j → l[q]? = some y → eqB s y = false) ∧ Below w.heap.size w wr) (fun i _ => m - (intOf i).toNat)
  case atStart => exact ⟨0, rfl, by omega, Lib.hid (by intros; omega), Bl.refl _⟩
  case round =>
    obtain ⟨j, rfl, hj, HK, hB⟩ := hrel
    by_cases hlt : j < m
    · obtain ⟨x, hxi⟩ : ∃ x, l[j]? = some x := ⟨l[j]'(by rw [hx.1]; exact hlt), List.getElem?_eq_getElem _⟩
      obtain ⟨bx, ox, Ax, cx, rfl, _, hbx, ex0, ex1, ex2, ex3, hsz, Sx⟩ := RepL_get (Sl_bl hx hB).2.2.2 hxi
      have HXI := Lib.hid hxi
      clear hxi
      go_wp2_with fail
      refine (partIs_calls x s _ _ _ _ _ _ _ _ Sx (Sl_bl hs hB) (HBOX.out.later hB) (Nat.lt_of_lt_of_le hg hB.size)).mono ?_
      rintro e w1 ⟨rfl, hb⟩
      have hB1 : Below w.heap.size w w1 := hB.call hb
      cases hv : eqB s x with
      | true =>
        go_wp2
        go_ret
        exact ⟨by rw [idxF_hit HXI.out hv HK.out]; rfl, hB1⟩
      | false =>
        have HV := Lib.hid hv
        clear hv
        have hv := HV.out
        go_wp2
        go_roundw
        case rel =>
          refine ⟨j + 1, by go_num, by omega, Lib.hid (fun q a hq ha => ?_), hB1⟩
          rcases Nat.lt_or_ge q j with h | h
          · exact HK.out q a h ha
          · obtain rfl : q = j := by omega
            rw [HXI.out] at ha
            injection ha with ha
            subst ha; exact hv
        case measure => simp [intOf]; omega
    · obtain rfl : j = m := by omega
      go_wp2
      go_ret
      exact ⟨by rw [idxF_none (fun q y hq => HK.out q y (by have := (List.getElem?_eq_some_iff.1 hq).1; rw [hx.1] at this; exact this) hq)]; rfl, hB⟩

set_option maxHeartbeats 400000 in
theorem containsIs_calls (l : List Val) (s : Val) (ok ok' : Nat → Prop) (A B : Option Addr) (m c d g : Nat) (w : World) (hx : Sl w ok l A m c) (hs : Sl w ok' s.is B s.is.length d) (hbox : BoxAt w g s.k s.n s.t B s.is.length d) (hg : g < w.heap.size) :
    Calls Tryd.prog 130 #[.slice A m c, .func (.func 131) #[] #[.pointer (some ⟨g, 0, none⟩)]] w fun e w' => e = .returned (.bool (l.any (eqB s))) ∧ Below w.heap.size w w' := by
  rw [← idxF_any]
  go_enter Tryd.func130, Tryd.ntmps130
  go_wp2_with fail
  refine (indexIs_calls l s _ _ _ _ _ _ _ _ _ hx hs hbox hg).mono ?_
  rintro e w1 ⟨rfl, hb⟩
  go_wp2
  go_ret
  exact ⟨rfl, hb⟩
end Go.Proofs.YtmbgaaoneaplmaaDoor
