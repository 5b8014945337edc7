/- Walks: paths.at. -/
import Derived.Test.YtmbgaaoneaplmaaDoorC5
namespace Go.Proofs.YtmbgaaoneaplmaaDoor
open Go.RowKit

mutual
/-- Every map within has a value to each key; no list within is too long. -/
def EvV : Val → Prop
  | ⟨k, _, _, is⟩ => (k ≠ 4 → k ≠ 5 → is.length % 2 = 0) ∧ is.length ≤ 100000 ∧ EvL is
def EvL : List Val → Prop
  | [] => True
  | x :: r => EvV x ∧ EvL r
end
theorem EvV_def (x : Val) : EvV x ↔ (x.k ≠ 4 → x.k ≠ 5 → x.is.length % 2 = 0) ∧ x.is.length ≤ 100000 ∧ EvL x.is := by cases x; simp only [EvV]
theorem EvL_mem {l : List Val} (h : EvL l) {x : Val} (hx : x ∈ l) : EvV x := by
  induction l with
  | nil => cases hx
  | cons a l ih =>
    simp only [EvL] at h
    cases hx with
    | head => exact h.1
    | tail _ hx => exact ih h.2 hx
theorem EvL_of {l : List Val} (h : ∀ x ∈ l, EvV x) : EvL l := by
  induction l with
  | nil => simp only [EvL]
  | cons a l ih => simp only [EvL]; exact ⟨h a List.mem_cons_self, ih (fun x hx => h x (List.mem_cons_of_mem _ hx))⟩
theorem EvV_vz : EvV vz := by simp [vz, EvV, EvL]
theorem EvV_getD {l : List Val} (h : EvL l) (i : Nat) : EvV (l.getD i vz) := by
  rw [List.getD_eq_getElem?_getD]
  cases hi : l[i]? with
  | none => exact EvV_vz
  | some x => exact EvL_mem h (List.mem_of_getElem? hi)
theorem EvV_part {v s : Val} (hv : EvV v) (hs : EvV s) : EvV (partF v s).1 := by
  rw [EvV_def] at hv
  unfold partF
  repeat' split
  all_goals first | exact EvV_vz | exact EvV_getD hv.2.2 _ | exact hs

/-- What stands at a path, and whether something does. -/
def atF : Val → List Val → Val × Bool
  | v, [] => (v, true)
  | v, s :: r => if (partF v s).2 = true then atF (partF v s).1 r else (vz, false)

set_option maxHeartbeats 1000000 in
set_option maxRecDepth 100000 in
theorem at_calls (v : Val) (l : List Val) (ok : Nat → Prop) (A B : Option Addr) (c m d : Nat) (w : World) (hv : Sl w ok v.is A v.is.length c) (ht : v.t.size ≤ big) (hx : Sl w ok l B m d) (hev : EvV v) (hel : EvL l) :
    Calls Tryd.prog 51 #[.agg #[.int .i64 v.k, .int .i64 v.n, .string v.t, .slice A v.is.length c], .slice B m d] w (RetV2 ok (atF v l).1 (.bool (atF v l).2) w) := by
  have hm : m ≤ 140737488355328 := hx.le
  generalize hr : atF v l = r
  have HR := Lib.hid hr
  clear hr
  have hv' := Sl_bound hv
  have hx' := Sl_bound hx
  have HEL := Lib.hid hel
  clear hel
  go_enter Tryd.func51, Tryd.ntmps51
  go_wp2
  go_loopw [12] (fun i wr => ∃ (j : Nat) (x : Val) (A' : Option Addr) (c' : Nat), i = .int .i64 j ∧ j ≤ m ∧ Hid (atF x (l.drop j) = r) ∧ VarAt wr w.heap.size x.k x.n x.t A' x.is.length c' ∧ VarAt wr (w.heap.size + 1) 0 0 ⟨#[]⟩ none 0 0 ∧
    Sl wr (fun k => ok k ∧ k < w.heap.size) x.is A' x.is.length c' ∧ x.t.size ≤ big ∧ EvV x ∧ Below w.heap.size w wr) (fun i _ => m - (intOf i).toNat)
  case atStart =>
    refine ⟨0, v, A, c, rfl, by omega, HR, ?_, ?_, Sl_bl hv' (((Bl.refl _).al _).al _), ht, hev, ((Bl.refl _).al _).al _⟩
    · exact (VarAt.new w v.k v.n v.t A v.is.length c 24).later ((Bl.refl _).al _)
    · have := VarAt.new (w.alloc (.cells #[.int .i64 v.k, .int .i64 v.n, .string v.t, .slice A v.is.length c] 24)) 0 0 ⟨#[]⟩ none 0 0 24
      simpa using this
  case round =>
    obtain ⟨j, x, A', c', rfl, hj, HJ, hv0, hv1, Sx, hxt, hxe, hB⟩ := hrel
    have HV0 := Lib.hid hv0
    have HV1 := Lib.hid hv1
    obtain ⟨⟨a0, a1, a2, a3⟩, g0, g1, g2, g3⟩ := hv0
    obtain ⟨⟨z0, z1, z2, z3⟩, f0, f1, f2, f3⟩ := hv1
    have hlt0 : w.heap.size + 1 < wr.heap.size := World.block_lt_of_cell? wr ⟨w.heap.size + 1, 0, none⟩ z0
    have hlt00 : w.heap.size < wr.heap.size := by omega
    by_cases hlt : j < m
    · obtain ⟨s, hsi⟩ : ∃ s, l[j]? = some s := ⟨l[j]'(by rw [hx.1]; exact hlt), List.getElem?_eq_getElem _⟩
      obtain ⟨bx, ox, As, cs, rfl, _, hbx, ex0, ex1, ex2, ex3, hsz, Ss⟩ := RepL_get (Sl_bl hx' hB).2.2.2 hsi
      have hes := EvL_mem HEL.out (List.mem_of_getElem? hsi)
      have hdr : l.drop j = s :: l.drop (j + 1) := by
        obtain ⟨h1, h2⟩ := List.getElem?_eq_some_iff.1 hsi
        rw [List.drop_eq_getElem_cons h1, h2]
      have HDR := Lib.hid hdr
      clear hdr hsi
      go_wp2_with fail
      refine (part_at x s _ _ _ _ _ _ (Sl_bl Sx ((Bl.refl _).al _)) (Sl_bl Ss ((Bl.refl _).al _)) hsz (fun h6 => ((EvV_def x).1 hxe).1 (by omega) (by omega))).mono ?_
      rintro e w1 ⟨v1, rfl, ⟨A1, c1, rfl, ht1, S1⟩, hb⟩
      have hB1 : Below w.heap.size w w1 := (hB.al _).call hb
      have hep := EvV_part hxe hes
      have hst := HJ.out
      rw [HDR.out] at hst
      simp only [atF] at hst
      have k0 := (HV0.out.later ((Bl.refl _).al (.cells #[.int .i64 s.k, .int .i64 s.n, .string s.t, .slice As s.is.length cs] 24))).later hb
      have k1 := (HV1.out.later ((Bl.refl _).al (.cells #[.int .i64 s.k, .int .i64 s.n, .string s.t, .slice As s.is.length cs] 24))).later hb
      have HK0 := Lib.hid k0
      have HK1 := Lib.hid k1
      have hlt1 : w.heap.size + 1 < w1.heap.size := World.block_lt_of_cell? w1 ⟨w.heap.size + 1, 0, none⟩ k1.1.1
      have hlt10 : w.heap.size < w1.heap.size := by omega
      obtain ⟨⟨y0, y1, y2, y3⟩, p0, p1, p2, p3⟩ := k0
      obtain ⟨⟨x0, x1, x2, x3⟩, r0, r1, r2, r3⟩ := k1
      clear a0 a1 a2 a3 g0 g1 g2 g3 z0 z1 z2 z3 f0 f1 f2 f3 ex0 ex1 ex2 ex3 
      cases hp : (partF x s).2 with
      | true => 
        rw [if_pos hp] at hst
        have HST := Lib.hid hst
        clear hst
        generalize (partF x s).1 = y at *
        go_wp2
        go_roundw
        case rel =>
          exact ⟨j + 1, y, A1, c1, by go_num, by omega, HST, (set4_var HK0.out).later ((Bl.refl _).al _), (HK1.out.other (by omega)).later ((Bl.refl _).al _), Sl_bl (Sl_set4 S1 (by omega) _ _ _ _ _ _) ((Bl.refl _).al _), ht1, hep, (set4_below hB1 (by omega)).al _⟩
        case measure => simp [intOf]; omega
      | false => 
        rw [if_neg (by rw [hp]; decide)] at hst
        have HST := Lib.hid hst
        clear hst
        generalize (partF x s).1 = y at *
        go_wp2
        obtain ⟨q0, q1, q2, q3⟩ := ((set4_var (k := 0) (n := 0) (t := ⟨#[]⟩) (A := none) (m := 0) (c := 0) HK1.out).later ((Bl.refl _).al (.cells #[.int .i64 y.k, .int .i64 y.n, .string y.t, .slice A1 y.is.length c1] 24))).1
        change bodyPost _ _ _ _ _ ((set4 w1 (w.heap.size + 1) 0 0 ⟨#[]⟩ none 0 0).alloc _)
        refine bodyPost_ret (v := .tuple #[.agg #[.int .i64 0, .int .i64 0, .string ⟨#[]⟩, .slice none 0 0], .bool false]) (by simp [results, Tryd.results51, go_sem, q0, q1, q2, q3]) rfl ⟨_, by rw [← HST.out], ?_, (set4_below hB1 (by omega)).al _⟩
        rw [← HST.out]
        exact IsV_vz _ _
    · obtain rfl : j = m := by omega
      have hst := HJ.out
      rw [List.drop_eq_nil_of_le (by rw [hx.1]; omega)] at hst
      simp only [atF] at hst
      have HST := Lib.hid hst
      clear hst
      go_wp2
      obtain ⟨q0, q1, q2, q3⟩ := (set4_var (k := x.k) (n := x.n) (t := x.t) (A := A') (m := x.is.length) (c := c') HV1.out).1
      change bodyPost _ _ _ _ _ (set4 wr (w.heap.size + 1) x.k x.n x.t A' x.is.length c')
      refine bodyPost_ret (v := .tuple #[.agg #[.int .i64 x.k, .int .i64 x.n, .string x.t, .slice A' x.is.length c'], .bool true]) (by simp [results, Tryd.results51, go_sem, q0, q1, q2, q3]) rfl ⟨_, by rw [← HST.out], ?_, set4_below hB (by omega)⟩
      rw [← HST.out]
      exact ((IsV.at hxt Sx).set4 (by omega) _ _ _ _ _ _).mono (fun k hk _ => hk.1)
end Go.Proofs.YtmbgaaoneaplmaaDoor
