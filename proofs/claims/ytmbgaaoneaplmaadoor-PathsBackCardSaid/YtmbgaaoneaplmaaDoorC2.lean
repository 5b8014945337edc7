/- Walks: paths.key, paths.part and what it calls. -/
import Derived.Test.YtmbgaaoneaplmaaDoorC1
namespace Go.Proofs.YtmbgaaoneaplmaaDoor
open Go.RowKit

/-- The place of a key among a map's items, and whether it is there. -/
def keyF : List Val → Val → Nat → Nat × Bool
  | [], _, i => (i, false)
  | [x], s, i => if 0 ≤ vcmp x s then (i, decide (vcmp x s = 0)) else (i + 1, false)
  | x :: _ :: r, s, i => if 0 ≤ vcmp x s then (i, decide (vcmp x s = 0)) else keyF r s (i + 2)

theorem keyF_hit {l : List Val} {s x : Val} {j : Nat} (hx : l[j]? = some x) (h : 0 ≤ vcmp x s) : keyF (l.drop j) s j = (j, decide (vcmp x s = 0)) := by
  obtain ⟨h1, h2⟩ := List.getElem?_eq_some_iff.1 hx
  rw [List.drop_eq_getElem_cons h1, h2]
  cases hd : l.drop (j + 1) with
  | nil => simp [keyF, h]
  | cons y r => simp [keyF, h]
theorem keyF_miss {l : List Val} {s x : Val} {j : Nat} (hx : l[j]? = some x) (h : ¬ 0 ≤ vcmp x s) : keyF (l.drop j) s j = if j + 1 < l.length then keyF (l.drop (j + 2)) s (j + 2) else (l.length, false) := by
  obtain ⟨h1, h2⟩ := List.getElem?_eq_some_iff.1 hx
  rw [List.drop_eq_getElem_cons h1, h2]
  by_cases hl : j + 1 < l.length
  · rw [if_pos hl, List.drop_eq_getElem_cons hl]
    simp [keyF, h]
  · rw [if_neg hl, List.drop_eq_nil_of_le (by omega)]
    simp [keyF, h]; omega

theorem ret2 {a b c d : Value} (h : a = c) (h' : b = d) : Ending.returned (.tuple #[a, b]) = .returned (.tuple #[c, d]) := by rw [h, h']

set_option maxHeartbeats 1000000 in
set_option maxRecDepth 100000 in
theorem key_calls (k n sk sn : Int) (t st : ByteArray) (l sl : List Val) (ok ok' : Nat → Prop) (A B : Option Addr) (m c p d : Nat) (w : World) (hx : Sl w ok l A m c) (hs : Sl w ok' sl B p d) :
    Calls Tryd.prog 97 #[.agg #[.int .i64 k, .int .i64 n, .string t, .slice A m c], .agg #[.int .i64 sk, .int .i64 sn, .string st, .slice B p d]] w fun e w' =>
      e = .returned (.tuple #[.int .i64 (keyF l ⟨sk, sn, st, sl⟩ 0).1, .bool (keyF l ⟨sk, sn, st, sl⟩ 0).2]) ∧ Below w.heap.size w w' := by
  have hm : m ≤ 140737488355328 := hx.le
  generalize hS : (⟨sk, sn, st, sl⟩ : Val) = s
  obtain ⟨e1, e2, e3, e4⟩ : sk = s.k ∧ sn = s.n ∧ st = s.t ∧ sl = s.is := by subst hS; exact ⟨rfl, rfl, rfl, rfl⟩
  clear hS
  subst e1 e2 e3 e4
  obtain rfl := hs.1
  generalize hv : keyF l s 0 = r
  have HV := Lib.hid hv
  clear hv
  go_enter Tryd.func97, Tryd.ntmps97
  go_wp2
  go_loopw [6] (fun i wr => ∃ j : Nat, i = .int .i64 j ∧ Hid (j ≤ m ∧ keyF (l.drop j) s j = r ∨ m < j ∧ r = (m, false)) ∧ wr.cell? ⟨w.heap.size, 3, none⟩ = some (.slice A m c) ∧ BoxAt wr (w.heap.size + 1) s.k s.n s.t B s.is.length d ∧ Below w.heap.size w wr) (fun i _ => m + 2 - (intOf i).toNat)
  case atStart => exact ⟨0, rfl, Lib.hid (.inl ⟨by omega, HV.out⟩), by simp, ⟨by simp, by simp, by simp, by simp⟩, ((Bl.refl _).al _).al _⟩
  case round =>
    obtain ⟨j, rfl, HJ, c0, hbox, hB⟩ := hrel
    by_cases hlt : j < m
    · obtain ⟨x, hxi⟩ : ∃ x, l[j]? = some x := ⟨l[j]'(by rw [hx.1]; exact hlt), List.getElem?_eq_getElem _⟩
      obtain ⟨bx, ox, Ax, cx, rfl, _, hbx, ex0, ex1, ex2, ex3, hsz, Sx⟩ := RepL_get (Sl_bl hx hB).2.2.2 hxi
      have HJ2 : Hid (keyF (l.drop j) s j = r) := Lib.hid (by rcases HJ.out with h | h; exact h.2; omega)
      have HXI := Lib.hid hxi
      have HBOX := Lib.hid hbox
      obtain ⟨b0, b1, b2, b3⟩ := hbox
      clear hxi
      have i0 : (0 : Int) ≤ (j : Int) := by omega
      have i1 : (j : Int) < (m : Int) := by omega
      go_wp2
      go_still_tail 6, (by kernel_rfl)
      go_wp2_with fail
      refine (compare_at x s _ _ _ _ _ _ _ (Sl_bl Sx (Bl.refl _).dr) (Sl_bl hs hB.dr)).mono ?_
      rintro e w1 ⟨rfl, hb⟩
      have hB1 : Below w.heap.size w w1 := hB.dr.call hb
      have d0 := cell_later (a := ⟨w.heap.size, 3, none⟩) hb c0
      have hbox1 := BoxAt.later (w := wr.drew) HBOX.out hb
      by_cases hv : 0 ≤ vcmp x s
      · have HK := Lib.hid (keyF_hit HXI.out hv)
        go_wp2
        go_ret2
        exact ⟨by rw [← HJ2.out, HK.out]; rfl, hB1⟩
      · have HK := Lib.hid (keyF_miss HXI.out hv)
        go_wp2
        go_roundw
        case rel =>
          refine ⟨j + 2, by go_num, Lib.hid ?_, d0, hbox1, hB1⟩
          have := HK.out
          rw [HJ2.out] at this
          by_cases h : j + 1 < l.length
          · rw [if_pos h] at this
            rw [hx.1] at h
            exact .inl ⟨by omega, this.symm⟩
          · rw [if_neg h] at this
            rw [hx.1] at h this
            exact .inr ⟨by omega, this⟩
        case measure => simp [intOf]; omega
    · have HR : Hid (r = (m, false)) := by
        rcases HJ.out with ⟨h1, h2⟩ | h
        · obtain rfl : j = m := by omega
          rw [List.drop_eq_nil_of_le (by rw [hx.1]; omega)] at h2
          exact Lib.hid h2.symm
        · exact Lib.hid h.2
      go_wp2
      go_ret2
      exact ⟨by rw [HR.out]; rfl, hB⟩
end Go.Proofs.YtmbgaaoneaplmaaDoor
