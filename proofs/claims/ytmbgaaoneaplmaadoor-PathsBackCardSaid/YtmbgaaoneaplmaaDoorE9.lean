/- Walks: equality in all fields. -/
import Derived.Test.YtmbgaaoneaplmaaDoorE8
namespace Go.Proofs.YtmbgaaoneaplmaaDoor
open Go.RowKit

def VeqAt (x : Val) : Prop := ∀ (y : Val) (ok ok' : Nat → Prop) (A B : Option Addr) (c d : Nat) (w : World), Sl w ok x.is A x.is.length c → Sl w ok' y.is B y.is.length d →
  Calls Tryd.prog 13 #[.agg #[.int .i64 x.k, .int .i64 x.n, .string x.t, .slice A x.is.length c], .agg #[.int .i64 y.k, .int .i64 y.n, .string y.t, .slice B y.is.length d]] w fun e w' => e = .returned (.bool (veq x y)) ∧ Below w.heap.size w w'

theorem veq_def (x y : Val) : veq x y = (decide (x.k = y.k) && (decide (x.n = y.n) && (decide (x.t.toList = y.t.toList) && veqL x.is y.is))) := by cases x; simp only [veq]

set_option maxHeartbeats 1000000 in
set_option maxRecDepth 100000 in
theorem veq_no (x y : Val) (A B : Option Addr) (c d : Nat) (w : World) (h : x.k ≠ y.k ∨ x.n ≠ y.n ∨ x.t.toList ≠ y.t.toList ∨ x.is.length ≠ y.is.length) :
  Calls Tryd.prog 13 #[.agg #[.int .i64 x.k, .int .i64 x.n, .string x.t, .slice A x.is.length c], .agg #[.int .i64 y.k, .int .i64 y.n, .string y.t, .slice B y.is.length d]] w fun e w' => e = .returned (.bool false) ∧ Below w.heap.size w w' := by
  by_cases h1 : x.k = y.k
  · by_cases h2 : x.n = y.n
    · by_cases h3 : x.t.toList = y.t.toList
      · have h5 : x.is.length ≠ y.is.length := by
          rcases h with h | h | h | h
          · exact absurd h1 h
          · exact absurd h2 h
          · exact absurd h3 h
          · exact h
        have h4 : ((x.is.length : Int) != (y.is.length : Int)) = true := by simp; omega
        have e1 : (x.k != y.k) = false := by simpa using h1
        have e2 : (x.n != y.n) = false := by simpa using h2
        have e3 : (x.t.toList == y.t.toList) = true := by simpa using h3
        clear h h1 h2 h3
        go_enter Tryd.func13, Tryd.ntmps13
        go_wp2
        go_ret
        exact ⟨rfl, ((Bl.refl _).al _).al _⟩
      · have e1 : (x.k != y.k) = false := by simpa using h1
        have e2 : (x.n != y.n) = false := by simpa using h2
        have e3 : (x.t.toList == y.t.toList) = false := by simpa using h3
        clear h h1 h2 h3
        go_enter Tryd.func13, Tryd.ntmps13
        go_wp2
        go_ret
        exact ⟨rfl, ((Bl.refl _).al _).al _⟩
    · have e1 : (x.k != y.k) = false := by simpa using h1
      have e2 : (x.n != y.n) = true := by simpa using h2
      clear h h1 h2
      go_enter Tryd.func13, Tryd.ntmps13
      go_wp2
      go_ret
      exact ⟨rfl, ((Bl.refl _).al _).al _⟩
  · have e1 : (x.k != y.k) = true := by simpa using h1
    clear h h1
    go_enter Tryd.func13, Tryd.ntmps13
    go_wp2
    go_ret
    exact ⟨rfl, ((Bl.refl _).al _).al _⟩

set_option maxHeartbeats 1000000 in
set_option maxRecDepth 100000 in
theorem veq_step (x : Val) (ih : ∀ z ∈ x.is, VeqAt z) : VeqAt x := by
  intro y ok ok' A B c d w hx hy
  by_cases hno : x.k ≠ y.k ∨ x.n ≠ y.n ∨ x.t.toList ≠ y.t.toList ∨ x.is.length ≠ y.is.length
  · have hv : veq x y = false := by
      rw [veq_def]
      rcases hno with h | h | h | h
      · simp [h]
      · simp [h]
      · simp [h]
      · simp [veqL_len h]
    rw [hv]
    exact veq_no x y A B c d w hno
  · have h1 : x.k = y.k := Classical.byContradiction fun h => hno (.inl h)
    have h2 : x.n = y.n := Classical.byContradiction fun h => hno (.inr (.inl h))
    have h3 : x.t.toList = y.t.toList := Classical.byContradiction fun h => hno (.inr (.inr (.inl h)))
    have h4 : x.is.length = y.is.length := Classical.byContradiction fun h => hno (.inr (.inr (.inr h)))
    have hv : veq x y = veqL x.is y.is := by rw [veq_def]; simp [h1, h2, h3]
    rw [hv]
    generalize hr : veqL x.is y.is = r
    have HR := Lib.hid hr
    have IH := Lib.hid ih
    have e1 : (x.k != y.k) = false := by simpa using h1
    have e2 : (x.n != y.n) = false := by simpa using h2
    have e3 : (x.t.toList == y.t.toList) = true := by simpa using h3
    have hm : x.is.length ≤ 140737488355328 := hx.le
    generalize hmm : x.is.length = m at *
    have HM := Lib.hid hmm
    have HM4 := Lib.hid h4
    have e4 : ((m : Int) != (y.is.length : Int)) = false := by simp; omega
    have hmy : (y.is.length : Int) = (m : Int) := by omega
    clear hno hv h1 h2 h3 hr ih hmm
    generalize y.is.length = m2 at *
    have : m2 = m := h4.symm
    subst this
    clear h4 hmy
    go_enter Tryd.func13, Tryd.ntmps13
    go_wp2
    go_loopw [37] (fun i wr => ∃ j : Nat, i = .int .i64 j ∧ j ≤ m2 ∧ Hid (∀ (q : Nat) a b, q < j → x.is[q]? = some a → y.is[q]? = some b → veq a b = true) ∧ wr.cell? ⟨w.heap.size, 3, none⟩ = some (.slice A m2 c) ∧ wr.cell? ⟨w.heap.size + 1, 3, none⟩ = some (.slice B m2 d) ∧ Below w.heap.size w wr) (fun i _ => m2 - (intOf i).toNat)
    case atStart => exact ⟨0, rfl, by omega, Lib.hid (by intro q a b h; omega), by simp, by simp, ((Bl.refl _).al _).al _⟩
    case round =>
      obtain ⟨j, rfl, hj, HJ, c0, c1, hB⟩ := hrel
      by_cases hlt : j < m2
      · obtain ⟨a, hai⟩ : ∃ a, x.is[j]? = some a := ⟨x.is[j]'(by rw [HM.out]; exact hlt), List.getElem?_eq_getElem _⟩
        obtain ⟨b, hbi⟩ : ∃ b, y.is[j]? = some b := ⟨y.is[j]'(by rw [hy.1]; exact hlt), List.getElem?_eq_getElem _⟩
        obtain ⟨bx, ox, Ax, cx, rfl, _, hbx, ex0, ex1, ex2, ex3, hsz, Sx⟩ := RepL_get (Sl_bl hx hB).2.2.2 hai
        obtain ⟨bz, oz, Az, cz, rfl, _, hbz, ez0, ez1, ez2, ez3, hsz', Sz⟩ := RepL_get (Sl_bl hy hB).2.2.2 hbi
        have HA := Lib.hid hai
        have HBI := Lib.hid hbi
        clear hai hbi
        have i0 : (0 : Int) ≤ (j : Int) := by omega
        have i1 : (j : Int) < (m2 : Int) := by omega
        have hw0 : w.heap.size < wr.heap.size := World.block_lt_of_cell? wr ⟨w.heap.size, 3, none⟩ c0
        have hw1 : w.heap.size + 1 < wr.heap.size := World.block_lt_of_cell? wr ⟨w.heap.size + 1, 3, none⟩ c1
        go_wp2
        go_still_tail 10, (by kernel_rfl)
        go_wp2_with fail
        refine (IH.out a (List.mem_of_getElem? HA.out) b _ _ _ _ _ _ _ (Sl_bl Sx (Bl.refl _).dr) (Sl_bl Sz (Bl.refl _).dr)).mono ?_
        rintro e w1 ⟨rfl, hb⟩
        have hB1 : Below w.heap.size w w1 := hB.dr.call hb
        have d0 := cell_later (a := ⟨w.heap.size, 3, none⟩) hb c0
        have d1 := cell_later (a := ⟨w.heap.size + 1, 3, none⟩) hb c1
        cases hv : veq a b with
        | true =>
          have HVE := Lib.hid hv
          go_wp2
          go_roundw
          case rel =>
            refine ⟨j + 1, by go_num, by omega, Lib.hid ?_, d0, d1, hB1⟩
            intro q a' b' hq ha' hb'
            by_cases he : q = j
            · subst he
              rw [HA.out] at ha'
              rw [HBI.out] at hb'
              injection ha' with ha'
              injection hb' with hb'
              rw [← ha', ← hb']; exact HVE.out
            · exact HJ.out q a' b' (by omega) ha' hb'
          case measure => simp [intOf]; omega
        | false =>
          have HVE := Lib.hid hv
          go_wp2
          go_ret
          refine ⟨?_, hB1⟩
          rw [← HR.out, veqL_false HA.out HBI.out HVE.out]
          rfl
      · have hje : j = m2 := by omega
        go_wp2
        go_ret
        refine ⟨?_, hB⟩
        rw [← HR.out, veqL_true (by rw [HM.out, hy.1]) (fun i a b ha hb => HJ.out i a b (by have := (List.getElem?_eq_some_iff.1 ha).1; rw [HM.out] at this; omega) ha hb)]
        rfl

theorem veq_at (x : Val) : VeqAt x := Val.ind veq_step x
end Go.Proofs.YtmbgaaoneaplmaaDoor
