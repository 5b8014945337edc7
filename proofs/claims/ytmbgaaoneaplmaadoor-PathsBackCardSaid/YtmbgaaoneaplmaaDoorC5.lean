/- Walks: paths.part, whole. -/
import Derived.Test.YtmbgaaoneaplmaaDoorC4
namespace Go.Proofs.YtmbgaaoneaplmaaDoor
open Go.RowKit

theorem index_yes (k n sk sn : Int) (t st : ByteArray) (A B : Option Addr) (m c p d : Nat) (w : World) (hm : m ≤ big) (h : idxOk m sk sn = true) :
    Calls Tryd.prog 95 #[.agg #[.int .i64 k, .int .i64 n, .string t, .slice A m c], .agg #[.int .i64 sk, .int .i64 sn, .string st, .slice B p d]] w fun e w' =>
      e = .returned (.tuple #[.int .i64 sn, .bool true]) ∧ Below w.heap.size w w' := by
  have := index_calls k n sk sn t st A B m c p d w hm
  rwa [h, if_pos rfl] at this
theorem index_no (k n sk sn : Int) (t st : ByteArray) (A B : Option Addr) (m c p d : Nat) (w : World) (hm : m ≤ big) (h : idxOk m sk sn = false) :
    Calls Tryd.prog 95 #[.agg #[.int .i64 k, .int .i64 n, .string t, .slice A m c], .agg #[.int .i64 sk, .int .i64 sn, .string st, .slice B p d]] w fun e w' =>
      e = .returned (.tuple #[.int .i64 0, .bool false]) ∧ Below w.heap.size w w' := by
  have := index_calls k n sk sn t st A B m c p d w hm
  rwa [h, if_neg (by decide)] at this

set_option maxHeartbeats 1000000 in
set_option maxRecDepth 100000 in
theorem part_list_hit (n sk sn : Int) (t st : ByteArray) (l : List Val) (ok : Nat → Prop) (A B : Option Addr) (m c p d i : Nat) (y : Val) (w : World) (hx : Sl w ok l A m c) (hi : sk = 2 ∧ sn = (i : Int)) (hy : l[i]? = some y) :
    Calls Tryd.prog 94 #[.agg #[.int .i64 4, .int .i64 n, .string t, .slice A m c], .agg #[.int .i64 sk, .int .i64 sn, .string st, .slice B p d]] w (RetV2 ok y (.bool true) w) := by
  have hm : m ≤ 140737488355328 := hx.le
  obtain ⟨rfl, rfl⟩ := hi
  have hi : i < m := by have := (List.getElem?_eq_some_iff.1 hy).1; rw [hx.1] at this; exact this
  have HR : Hid (idxOk m 2 (i : Int) = true) := Lib.hid (by simp [idxOk]; omega)
  have HY := Lib.hid hy
  clear hy
  go_enter Tryd.func94, Tryd.ntmps94
  go_wp2_with fail
  refine (index_yes _ _ _ _ _ _ _ _ _ _ _ _ _ hm HR.out).mono ?_
  rintro e w1 ⟨rfl, hb⟩
  obtain ⟨hv0, _, hv2, hB1⟩ := three_boxes w w1 4 n 2 i t st A B m c p d hb
  obtain ⟨a0, a1, a2, a3⟩ := hv0
  have HV2 := Lib.hid hv2
  obtain ⟨⟨z0, z1, z2, z3⟩, f0, f1, f2, f3⟩ := hv2
  obtain ⟨bx, ox, Ax, cx, rfl, _, hbx, ex0, ex1, ex2, ex3, hsz, Sx⟩ := RepL_get (Sl_bl (Sl_bound hx) hB1).2.2.2 HY.out
  have i0 : (0 : Int) ≤ (i : Int) := by omega
  have i1 : (i : Int) < (m : Int) := by omega
  go_wp2
  obtain ⟨q0, q1, q2, q3⟩ := (set4_var (k := y.k) (n := y.n) (t := y.t) (A := Ax) (m := y.is.length) (c := cx) HV2.out).1
  change bodyPost _ _ _ _ _ (set4 w1 (w.heap.size + 1 + 1) y.k y.n y.t Ax y.is.length cx)
  refine bodyPost_ret (v := .tuple #[.agg #[.int .i64 y.k, .int .i64 y.n, .string y.t, .slice Ax y.is.length cx], .bool true]) (by simp [results, Tryd.results94, go_sem, q0, q1, q2, q3]) rfl ⟨_, rfl, ?_, set4_below hB1 (by omega)⟩
  exact (((IsV.at hsz Sx).mono (fun k hk _ => hk)).set4 (by omega) _ _ _ _ _ _).mono (fun k hk _ => hk.1)

set_option maxHeartbeats 1000000 in
set_option maxRecDepth 100000 in
theorem part_list_miss (n sk sn : Int) (t st : ByteArray) (ok : Nat → Prop) (A B : Option Addr) (m c p d : Nat) (w : World) (hm : m ≤ big) (hr : idxOk m sk sn = false) :
    Calls Tryd.prog 94 #[.agg #[.int .i64 4, .int .i64 n, .string t, .slice A m c], .agg #[.int .i64 sk, .int .i64 sn, .string st, .slice B p d]] w (RetV2 ok vz (.bool false) w) := by
  have hm' : m ≤ 140737488355328 := hm
  have HR := Lib.hid hr
  clear hr
  go_enter Tryd.func94, Tryd.ntmps94
  go_wp2_with fail
  refine (index_no _ _ _ _ _ _ _ _ _ _ _ _ _ hm HR.out).mono ?_
  rintro e w1 ⟨rfl, hb⟩
  obtain ⟨_, _, hv2, hB1⟩ := three_boxes w w1 4 n sk sn t st A B m c p d hb
  have HV2 := Lib.hid hv2
  obtain ⟨⟨z0, z1, z2, z3⟩, f0, f1, f2, f3⟩ := hv2
  go_wp2
  obtain ⟨q0, q1, q2, q3⟩ := (set4_var (k := 0) (n := 0) (t := ⟨#[]⟩) (A := none) (m := 0) (c := 0) HV2.out).1
  change bodyPost _ _ _ _ _ (set4 w1 (w.heap.size + 1 + 1) 0 0 ⟨#[]⟩ none 0 0)
  refine bodyPost_ret (v := .tuple #[.agg #[.int .i64 0, .int .i64 0, .string ⟨#[]⟩, .slice none 0 0], .bool false]) (by simp [results, Tryd.results94, go_sem, q0, q1, q2, q3]) rfl ⟨_, rfl, IsV_vz _ _, set4_below hB1 (by omega)⟩

set_option maxHeartbeats 1000000 in
set_option maxRecDepth 100000 in
theorem part_set (n : Int) (t : ByteArray) (l : List Val) (s : Val) (ok : Nat → Prop) (A B : Option Addr) (m c d : Nat) (w : World) (hx : Sl w ok l A m c) (hs : Sl w ok s.is B s.is.length d) (hst : s.t.size ≤ big) :
    Calls Tryd.prog 94 #[.agg #[.int .i64 5, .int .i64 n, .string t, .slice A m c], .agg #[.int .i64 s.k, .int .i64 s.n, .string s.t, .slice B s.is.length d]] w (RetV2 ok (if l.any (eqB s) = true then s else vz) (.bool (l.any (eqB s))) w) := by
  have hm : m ≤ 140737488355328 := hx.le
  cases hr : l.any (eqB s) with
  | true =>
    rw [if_pos rfl]
    go_enter Tryd.func94, Tryd.ntmps94
    go_wp2_with fail
    refine (containsIs_calls l s _ _ _ _ _ _ _ _ _ (Sl_bl hx ((((Bl.refl _).al _).al _).al _)) (Sl_bl hs ((((Bl.refl _).al _).al _).al _)) ?_ ?_).mono ?_
    · have := (BoxAt.new (w.alloc (.cells #[.int .i64 5, .int .i64 n, .string t, .slice A m c] 24)) s.k s.n s.t B s.is.length d 24).later ((Bl.refl _).al (.cells #[.int .i64 0, .int .i64 0, .string ⟨#[]⟩, .slice none 0 0] 24))
      simpa using this
    · simp
    rintro e w1 ⟨rfl, hb⟩
    obtain ⟨_, hv1, hv2, hB1⟩ := three_boxes w w1 5 n s.k s.n t s.t A B m c s.is.length d hb
    obtain ⟨a0, a1, a2, a3⟩ := hv1
    have HV2 := Lib.hid hv2
    obtain ⟨⟨z0, z1, z2, z3⟩, f0, f1, f2, f3⟩ := hv2
    go_wp2
    obtain ⟨q0, q1, q2, q3⟩ := (set4_var (k := s.k) (n := s.n) (t := s.t) (A := B) (m := s.is.length) (c := d) HV2.out).1
    change bodyPost _ _ _ _ _ (set4 w1 (w.heap.size + 1 + 1) s.k s.n s.t B s.is.length d)
    refine bodyPost_ret (v := .tuple #[.agg #[.int .i64 s.k, .int .i64 s.n, .string s.t, .slice B s.is.length d], .bool true]) (by simp [results, Tryd.results94, go_sem, q0, q1, q2, q3]) rfl ⟨_, rfl, ?_, set4_below hB1 (by omega)⟩
    exact (((IsV.at hst (Sl_bl (Sl_bound hs) hB1)).mono (fun k hk _ => hk)).set4 (by omega) _ _ _ _ _ _).mono (fun k hk _ => hk.1)
  | false =>
    rw [if_neg (by decide)]
    go_enter Tryd.func94, Tryd.ntmps94
    go_wp2_with fail
    refine (containsIs_calls l s _ _ _ _ _ _ _ _ _ (Sl_bl hx ((((Bl.refl _).al _).al _).al _)) (Sl_bl hs ((((Bl.refl _).al _).al _).al _)) ?_ ?_).mono ?_
    · have := (BoxAt.new (w.alloc (.cells #[.int .i64 5, .int .i64 n, .string t, .slice A m c] 24)) s.k s.n s.t B s.is.length d 24).later ((Bl.refl _).al (.cells #[.int .i64 0, .int .i64 0, .string ⟨#[]⟩, .slice none 0 0] 24))
      simpa using this
    · simp
    rintro e w1 ⟨rfl, hb⟩
    obtain ⟨_, hv1, hv2, hB1⟩ := three_boxes w w1 5 n s.k s.n t s.t A B m c s.is.length d hb
    have HV2 := Lib.hid hv2
    obtain ⟨⟨z0, z1, z2, z3⟩, f0, f1, f2, f3⟩ := hv2
    go_wp2
    obtain ⟨q0, q1, q2, q3⟩ := (set4_var (k := 0) (n := 0) (t := ⟨#[]⟩) (A := none) (m := 0) (c := 0) HV2.out).1
    change bodyPost _ _ _ _ _ (set4 w1 (w.heap.size + 1 + 1) 0 0 ⟨#[]⟩ none 0 0)
    refine bodyPost_ret (v := .tuple #[.agg #[.int .i64 0, .int .i64 0, .string ⟨#[]⟩, .slice none 0 0], .bool false]) (by simp [results, Tryd.results94, go_sem, q0, q1, q2, q3]) rfl ⟨_, rfl, IsV_vz _ _, set4_below hB1 (by omega)⟩

set_option maxHeartbeats 1000000 in
set_option maxRecDepth 100000 in
theorem part_other (k n sk sn : Int) (t st : ByteArray) (ok : Nat → Prop) (A B : Option Addr) (m c p d : Nat) (w : World) (h4 : k ≠ 4) (h5 : k ≠ 5) (h6 : k ≠ 6) :
    Calls Tryd.prog 94 #[.agg #[.int .i64 k, .int .i64 n, .string t, .slice A m c], .agg #[.int .i64 sk, .int .i64 sn, .string st, .slice B p d]] w (RetV2 ok vz (.bool false) w) := by
  obtain ⟨e4, e5, e6⟩ : (k == 4) = false ∧ (k == 5) = false ∧ (k == 6) = false := by simp [h4, h5, h6]
  clear h4 h5 h6
  go_enter Tryd.func94, Tryd.ntmps94
  go_wp2
  refine bodyPost_ret (v := .tuple #[.agg #[.int .i64 0, .int .i64 0, .string ⟨#[]⟩, .slice none 0 0], .bool false]) (by simp [results, Tryd.results94, go_sem]) rfl ⟨_, rfl, IsV_vz _ _, (((Bl.refl _).al _).al _).al _⟩

/-- paths.part. -/
theorem part_at (v s : Val) (ok : Nat → Prop) (A B : Option Addr) (c d : Nat) (w : World) (hx : Sl w ok v.is A v.is.length c) (hs : Sl w ok s.is B s.is.length d) (hst : s.t.size ≤ big) (hev : v.k = 6 → v.is.length % 2 = 0) :
    Calls Tryd.prog 94 #[.agg #[.int .i64 v.k, .int .i64 v.n, .string v.t, .slice A v.is.length c], .agg #[.int .i64 s.k, .int .i64 s.n, .string s.t, .slice B s.is.length d]] w (RetV2 ok (partF v s).1 (.bool (partF v s).2) w) := by
  obtain ⟨k, n, t, l⟩ := v
  simp only at hx hev ⊢
  unfold partF
  simp only
  by_cases h6 : k = 6
  · subst h6
    rw [if_pos rfl]
    cases hr : keyF l s 0 with
    | mk i b =>
      cases b with
      | true =>
        have hlt := keyF_lt l s 0 (hev rfl) (by rw [hr])
        rw [hr] at hlt
        simp only at hlt
        have hy : l[i + 1]? = some (l.getD (i + 1) vz) := by
          rw [List.getElem?_eq_getElem (by omega), List.getD_eq_getElem?_getD, List.getElem?_eq_getElem (by omega)]; rfl
        cases s
        simpa using part_map_hit n _ _ t _ l _ ok A B _ c _ d i _ w hx hs hr hy
      | false =>
        cases s
        simpa using part_map_miss n _ _ t _ l _ ok A B _ c _ d i w hx hs hr
  · rw [if_neg h6]
    by_cases h4 : k = 4
    · subst h4
      rw [if_pos rfl]
      cases hr : idxOk l.length s.k s.n with
      | true =>
        have hh : s.k = 2 ∧ 0 ≤ s.n ∧ s.n < l.length := by simpa [idxOk] using hr
        have hy : l[s.n.toNat]? = some (l.getD s.n.toNat vz) := by
          rw [List.getElem?_eq_getElem (by omega), List.getD_eq_getElem?_getD, List.getElem?_eq_getElem (by omega)]; rfl
        simpa using part_list_hit n _ _ t _ l ok A B _ c _ d s.n.toNat _ w hx ⟨hh.1, by omega⟩ hy
      | false => simpa using part_list_miss n _ _ t _ ok A B _ c _ d w hx.2.2.1 hr
    · rw [if_neg h4]
      by_cases h5 : k = 5
      · subst h5
        rw [if_pos rfl]
        have := part_set n t l s ok A B _ c d w hx hs hst
        cases hr : l.any (eqB s) <;> (rw [hr] at this; simpa using this)
      · rw [if_neg h5]
        exact part_other k n _ _ t _ ok A B _ c _ d w h4 h5 h6
end Go.Proofs.YtmbgaaoneaplmaaDoor
