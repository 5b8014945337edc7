/- Walks: paths.own. -/
import Derived.Test.YtmbgaaoneaplmaaDoorA1
import Derived.Test.YtmbgaaoneaplmaaDoorC6
namespace Go.Proofs.YtmbgaaoneaplmaaDoor
open Go.RowKit

/-- A contract of a copy, at one value. -/
def OwnAt (f : FuncId) (x : Val) : Prop := ∀ (ok ok' : Nat → Prop) (A : Option Addr) (c : Nat) (w : World) (_ : Sl w ok x.is A x.is.length c) (_ : x.t.size ≤ big) (_ : ∀ k, w.heap.size ≤ k → ok' k) (_ : EvV x),
  Calls Tryd.prog f #[.agg #[.int .i64 x.k, .int .i64 x.n, .string x.t, .slice A x.is.length c]] w (RetV ok' x w)

set_option maxHeartbeats 1000000 in
set_option maxRecDepth 100000 in
theorem own_step (x : Val) (ih : ∀ z ∈ x.is, OwnAt 52 z) : OwnAt 52 x := by
  intro ok ok' A c w hx ht hok hev
  have hm : x.is.length ≤ 140737488355328 := hx.le
  have IH := Lib.hid ih
  have HE := Lib.hid hev
  have hlen : x.is.length ≤ 100000 := ((EvV_def x).1 hev).2.1
  clear ih hev
  by_cases h0 : x.is.length = 0
  · have hnil : x.is = [] := List.eq_nil_of_length_eq_zero h0
    obtain ⟨k, n, t, l⟩ := x
    simp only at hnil
    subst hnil
    clear h0
    go_enter Tryd.func52, Tryd.ntmps52
    go_wp2
    refine bodyPost_ret (v := .agg #[.int .i64 k, .int .i64 n, .string t, .slice none 0 0]) (by simp [results, Tryd.results52, go_sem]) rfl ⟨_, rfl, IsV.mk ht (Sl_nil _ _), ?_⟩
    exact ((Bl.refl _).al _).al _
  · have h0' : ((x.is.length : Int) == 0) = false := by simp; intro h; exact h0 (by rw [h]; rfl)
    have hmk := run_make24 x.is.length hlen
    generalize hmm : x.is.length = m at *
    have HM := Lib.hid hmm
    clear hmm
    go_enter Tryd.func52, Tryd.ntmps52
    go_wp2
    clear hmk
    go_loopw [19] (fun i wr => ∃ (j : Nat), i = .int .i64 j ∧ j ≤ m ∧ VarAt wr w.heap.size x.k x.n x.t A m c ∧ VarAt wr (w.heap.size + 1) 0 0 ⟨#[]⟩ none 0 0 ∧ Arr wr (fun k => w.heap.size + 3 ≤ k) (w.heap.size + 1 + 1) m (x.is.take j) ∧ Below w.heap.size w wr) (fun i _ => m - (intOf i).toNat)
    case atStart =>
      refine ⟨0, rfl, by omega, ?_, ?_, ?_, (((Bl.refl _).al _).al _).al _⟩
      · exact (VarAt.new w x.k x.n x.t A m c 24).later (((Bl.refl _).al _).al _)
      · have := (VarAt.new (w.alloc (.cells #[.int .i64 x.k, .int .i64 x.n, .string x.t, .slice A m c] 24)) 0 0 ⟨#[]⟩ none 0 0 24).later ((Bl.refl _).al (.cells (zrows m) 24))
        simpa using this
      · have := Arr.new ((w.alloc (.cells #[.int .i64 x.k, .int .i64 x.n, .string x.t, .slice A m c] 24)).alloc (.cells #[.int .i64 0, .int .i64 0, .string ⟨#[]⟩, .slice none 0 0] 24)) (fun k => w.heap.size + 3 ≤ k) m
        simpa using this
    case round =>
      obtain ⟨j, rfl, hj, hv0, hv1, hA, hB⟩ := hrel
      have HV0 := Lib.hid hv0
      have HV1 := Lib.hid hv1
      have hlt0 : w.heap.size + 1 < wr.heap.size := World.block_lt_of_cell? wr ⟨w.heap.size + 1, 0, none⟩ hv1.1.1
      by_cases hlt : j < m
      · clear hv0 hv1
        obtain ⟨y, hyi⟩ : ∃ y, x.is[j]? = some y := ⟨x.is[j]'(by rw [HM.out]; exact hlt), List.getElem?_eq_getElem _⟩
        obtain ⟨bx, ox, Ay, cy, rfl, _, hbx, ex0, ex1, ex2, ex3, hsz, Sy⟩ := RepL_get (Sl_bl hx hB).2.2.2 hyi
        have HY := Lib.hid hyi
        clear hyi
        have hA' := hA
        obtain ⟨x0, A0, c0, hvo, _⟩ := hA j hlt
        have hlt2 : w.heap.size + 2 < wr.heap.size := hvo.lt
        go_wp2_with fail
        refine (IH.out y (List.mem_of_getElem? HY.out) _ (fun k => w.heap.size + 3 ≤ k) _ _ _ (Sl_bl Sy ((Bl.refl _).al _)) hsz (by intro k hk; simp at hk; omega) (EvL_mem ((EvV_def x).1 HE.out).2.2 (List.mem_of_getElem? HY.out))).mono ?_
        rintro e w1 ⟨v1, rfl, ⟨A1, c1, rfl, ht1, S1⟩, hb⟩
        have hB1 : Below w.heap.size w w1 := (hB.al _).call hb
        have k0 := (HV0.out.later ((Bl.refl _).al (.cells #[.int .i64 y.k, .int .i64 y.n, .string y.t, .slice Ay y.is.length cy] 24))).later hb
        have k1 := (HV1.out.later ((Bl.refl _).al (.cells #[.int .i64 y.k, .int .i64 y.n, .string y.t, .slice Ay y.is.length cy] 24))).later hb
        have kA := (hA'.later ((Bl.refl _).al (.cells #[.int .i64 y.k, .int .i64 y.n, .string y.t, .slice Ay y.is.length cy] 24))).later hb
        have kO := (hvo.later ((Bl.refl _).al (.cells #[.int .i64 y.k, .int .i64 y.n, .string y.t, .slice Ay y.is.length cy] 24))).later hb
        obtain ⟨⟨z0, z1, z2, z3⟩, f0, f1, f2, f3⟩ := kO
        have i0 : (0 : Int) ≤ (j : Int) := by omega
        have i1 : (j : Int) < (m : Int) := by omega
        go_wp2
        go_roundw
        case rel =>
          have hl : (x.is.take j).length = j := by rw [List.length_take, HM.out]; omega
          have hp := kA.push (y := y) (A := A1) (c := c1) (by omega) (by omega) ht1 S1
          rw [hl] at hp
          refine ⟨j + 1, by go_num, by omega, k0.move (set4O_block _ (by omega)), k1.move (set4O_block _ (by omega)), ?_, set4O_below hB1 (by omega)⟩
          rw [List.take_add_one, HY.out]
          exact hp
        case measure => simp [intOf]; omega
      · obtain rfl : j = m := by omega
        rw [List.take_of_length_le (by rw [HM.out]; omega)] at hA
        have hS := hA.done (ok' := fun k => w.heap.size + 1 < k) HM.out (Nat.le_refl _) (by unfold big; omega) (by intro k hk; omega) (by omega)
        obtain ⟨⟨a0, a1, a2, a3⟩, g0, g1, g2, g3⟩ := hv0
        obtain ⟨⟨z0, z1, z2, z3⟩, f0, f1, f2, f3⟩ := hv1
        go_wp2
        have hne : w.heap.size + 1 ≠ (⟨w.heap.size, 3, none⟩ : Addr).block := by simp
        have k1 : VarAt (wr.setCell ⟨w.heap.size, 3, none⟩ (.slice (some ⟨w.heap.size + 1 + 1, 0, none⟩) j j)) (w.heap.size + 1) 0 0 ⟨#[]⟩ none 0 0 := VarAt.move HV1.out (Below.heap_setCell _ _ _ _ hne)
        have hS2 : Sl (wr.setCell ⟨w.heap.size, 3, none⟩ (.slice (some ⟨w.heap.size + 1 + 1, 0, none⟩) j j)) (fun k => w.heap.size + 1 < k) x.is (some ⟨w.heap.size + 1 + 1, 0, none⟩) j j :=
          Sl_move (fun k hk _ => ⟨hk, Below.heap_setCell _ _ _ _ (by simp; omega)⟩) hS
        have hB2 : Below w.heap.size w (wr.setCell ⟨w.heap.size, 3, none⟩ (.slice (some ⟨w.heap.size + 1 + 1, 0, none⟩) j j)) := hB.setCell (p := ⟨w.heap.size, 3, none⟩) (Nat.le_refl _) _
        obtain ⟨q0, q1, q2, q3⟩ := (set4_var (k := x.k) (n := x.n) (t := x.t) (A := some ⟨w.heap.size + 1 + 1, 0, none⟩) (m := j) (c := j) k1).1
        change bodyPost _ _ _ _ _ (set4 (wr.setCell ⟨w.heap.size, 3, none⟩ (.slice (some ⟨w.heap.size + 1 + 1, 0, none⟩) j j)) (w.heap.size + 1) x.k x.n x.t (some ⟨w.heap.size + 1 + 1, 0, none⟩) j j)
        refine bodyPost_ret (v := .agg #[.int .i64 x.k, .int .i64 x.n, .string x.t, .slice (some ⟨w.heap.size + 1 + 1, 0, none⟩) j j]) (by simp [results, Tryd.results52, go_sem, q0, q1, q2, q3]) rfl ⟨_, rfl, ?_, set4_below hB2 (by omega)⟩
        have hfin := ((IsV.mk (k := x.k) (n := x.n) ht hS2).set4 (b := w.heap.size + 1) (by omega) x.k x.n x.t (some ⟨w.heap.size + 1 + 1, 0, none⟩) j j).mono (ok' := ok') (fun k hk _ => hok k (by omega))
        have hx' : (⟨x.k, x.n, x.t, x.is⟩ : Val) = x := by cases x; rfl
        rw [hx'] at hfin
        exact hfin

theorem own_at (x : Val) : OwnAt 52 x := Val.ind own_step x
end Go.Proofs.YtmbgaaoneaplmaaDoor
