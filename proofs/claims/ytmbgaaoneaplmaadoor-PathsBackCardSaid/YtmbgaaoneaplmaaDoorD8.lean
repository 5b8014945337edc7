/- Walks: paths.put, a list, found. -/
import Derived.Test.YtmbgaaoneaplmaaDoorD6
import Derived.Deep.RegionWith
import Derived.RegionDies
import Derived.Deep.Cut
namespace Go.Proofs.YtmbgaaoneaplmaaDoor
open Go.RowKit

set_option maxHeartbeats 2000000 in
set_option maxRecDepth 100000 in
theorem put_list_hit_some (s : Val) (r : List Val) (v x : Val) (ok : Nat → Prop) (A B D : Option Addr) (c m d p : Nat) (w : World) (hv : Sl w ok v.is A v.is.length c) (hl : Sl w ok (s :: r) B m d) (ih : PutC r) (hx : Sl w ok x.is D x.is.length p) (hxt : x.t.size ≤ big) (hev : EvV v) (hes : EvV s) (her : EvL r) (hk : v.k = 4) (hi : idxOk v.is.length s.k s.n = true) (y : Val) (hp : putF (partF v s).1 r x = some y) :
    Calls Tryd.prog 45 #[.agg #[.int .i64 v.k, .int .i64 v.n, .string v.t, .slice A v.is.length c], .slice B m d, .agg #[.int .i64 x.k, .int .i64 x.n, .string x.t, .slice D x.is.length p]] w (RetV (fun k => ok k ∨ w.heap.size ≤ k) ⟨4, 0, ⟨#[]⟩, v.is.set s.n.toNat y⟩ w) := by
  have hm : r.length + 1 = m := hl.1
  have HM := Lib.hid hm
  have hm0 : (1 : Int) ≤ (m : Int) := by omega
  have hm1 : ¬ ((m : Int) = 0) := by omega
  have hm2 : 0 < m := by omega
  have hm3 : (m : Int) ≤ (d : Int) := by have := hl.2.1; omega
  have hmd : m ≤ d := hl.2.1
  clear hm
  have hmb : m ≤ 140737488355328 := hl.le
  obtain ⟨b, o, A', c', rfl, hb, hlt, e0, e1, e2, e3, hst, hss⟩ := RepL_get hl.2.2.2 (i := 0) rfl
  simp only [Nat.zero_mul, Nat.add_zero] at e0 e1 e2 e3
  have hl1 : b < w.heap.size + 1 := by omega
  have hl2 : b < w.heap.size + 1 + 1 := by omega
  have hl3 : b < w.heap.size + 1 + 1 + 1 := by omega
  obtain ⟨B', m', hcut, HS⟩ := cut_rest hl
  replace HS := Lib.hid HS
  have HK := Lib.hid hk
  have HI := Lib.hid hi
  have HP := Lib.hid hp
  have hlen : v.is.length ≤ 100000 := ((EvV_def v).1 hev).2.1
  clear hk hp
  go_enter Tryd.func45, Tryd.ntmps45
  go_wp2_with fail
  go_region
  go_wp2_with fail
  refine (part_at v s _ _ _ _ _ _ (Sl_bl (Sl_bound hv) ((((((Bl.refl _).al _).al _).al _).al _).dr)) (Sl_bl (Sl_bound hss) ((((((Bl.refl _).al _).al _).al _).al _).dr)) hst (by have := HK.out; omega)).mono ?_
  rintro e w1 ⟨v1, rfl, ⟨A1, c1, rfl, ht1, S1⟩, hb1⟩
  obtain ⟨hv0, hv1, hv2, hv3, hB1, hsz1⟩ := four_boxes w w1 _ _ _ _ _ _ _ _ _ _ _ _ _ _ _ _ _ _ hb1
  have HV0 := Lib.hid hv0
  have HV1 := Lib.hid hv1
  have HV2 := Lib.hid hv2
  have HV3 := Lib.hid hv3
  have hz0 := hv0.lt
  have hz1 := hv1.lt
  have hz3 := hv3.lt
  obtain ⟨a0, a1, a2, a3⟩ := hv0
  obtain ⟨s0, s1, s2, s3⟩ := hv3
  clear hv1 hv2 e0 e1 e2 e3 hcut
  have hk := HK.out
  go_wp2_with fail
  refine (index_yes _ _ _ _ _ _ _ _ _ _ _ _ _ (by have := hv.2.2.1; exact this) hi).mono ?_
  rintro e w2 ⟨rfl, hb2⟩
  have hB2 := (hB1.al _).call hb2
  clear a0 a1 a2 a3 s0 s1 s2 s3 hz0 hz1 hz3
  have hv0 := HV0.out.al1 hb2
  have hv3 := HV3.out.al1 hb2
  have hz0 := hv0.lt
  have hz3 := hv3.lt
  obtain ⟨a0, a1, a2, a3⟩ := hv0
  obtain ⟨s0, s1, s2, s3⟩ := hv3
  have hvo := (BoxAt.new w1 (partF v s).1.k (partF v s).1.n (partF v s).1.t A1 (partF v s).1.is.length c1 24).later hb2
  have hv1 := HV1.out.al1 hb2
  have hv2 := HV2.out.al1 hb2
  have hv3 := HV3.out.al1 hb2
  have HV0 := Lib.hid (HV0.out.al1 hb2)
  go_wp2_with fail
  refine (clone_calls v.is (fun k => ok k ∧ k < w.heap.size) _ _ _ _ (Sl_bl (Sl_bound hv) hB2) hlen).mono ?_
  rintro e w3 ⟨cv, rfl, hcs, hb3⟩
  have hO := OwnN.of_S (P := fun k => ok k ∧ k < w.heap.size) hcs (fun k h _ => h)
  have hB3 := hB2.call hb3
  clear a0 a1 a2 a3 s0 s1 s2 s3 hz0 hz3
  replace hvo := hvo.later hb3
  replace hv1 := hv1.later hb3
  replace hv2 := hv2.later hb3
  replace hv3 := hv3.later hb3
  have hsz2 : w1.heap.size < w2.heap.size := by have := hb2.size; simp at this; omega
  have hz0 := HV0.out.lt
  have hz2 := hv2.1.lt
  obtain ⟨i, hin, hil⟩ : ∃ i : Nat, s.n = (i : Int) ∧ i < v.is.length := by
    have := HI.out
    simp only [idxOk, decide_eq_true_eq] at this
    exact ⟨s.n.toNat, by omega, by omega⟩
  rcases hO with ⟨_, hnil⟩ | ⟨g, cap, rows, rfl, hg, hOB, hrows⟩
  · rw [hnil] at hil; simp at hil
  have hrl : rows.length = v.is.length := by rw [← hrows]; simp
  have hgl := hOB.lt
  have hevp := EvV_part hev hes
  have hg1 : w1.heap.size < g := by omega
  obtain ⟨xb0, xb1, xb2, xb3⟩ := hv1
  obtain ⟨ob0, ob1, ob2, ob3⟩ := hvo
  have hs1 : w.heap.size + 1 < w3.heap.size := by omega
  have hs4 : w1.heap.size < w3.heap.size := by omega
  have HV2' := Lib.hid hv2
  have hi1 : i < rows.length := by omega
  have hi2 : (i : Int) < (rows.length : Int) := by omega
  have hi3 : (0 : Int) ≤ (i : Int) := by omega
  replace hrl := Lib.hid hrl
  replace hrows := Lib.hid hrows
  obtain ⟨rw, hrw⟩ : ∃ rw, rows[i]? = some rw := ⟨rows[i], List.getElem?_eq_getElem hi1⟩
  go_wp2_with fail
  go_region_with (go_at_call 45
                  refine (ih (partF v s).1 x (fun k => ok k ∧ k < w.heap.size) A1 B' D c1 m' m' p _ ?_ ht1 ?_ ?_ hxt hevp her).mono ?_
                  · exact Sl_bl S1 (((((Bl.refl _).al _).call hb2).call hb3).al _).dr
                  · exact Sl_bl (Sl_bound HS.out) (hB3.al _).dr
                  · exact Sl_bl (Sl_bound hx) (hB3.al _).dr
                  rintro e w4 hR
                  rw [HP.out] at hR
                  obtain ⟨yv, rfl, ⟨A4, c4, rfl, ht4, S4⟩, hb4⟩ := hR
                  obtain ⟨n0, n1, n2, n3⟩ := (BoxAt.new w3 4 0 ⟨#[]⟩ (some ⟨g, 0, none⟩) rows.length cap 24).later ((Bl.refl _).dr.call hb4)
                  have hnl : w3.heap.size < w4.heap.size := by have := hb4.size; simp at this; omega
                  have hgl4 : g < w4.heap.size := by omega
                  have hO4 := hOB.later (((Bl.refl _).al _).dr.call hb4)
                  have hvao := hO4.vao hrw
                  obtain ⟨⟨z0, z1, z2, z3⟩, f0, f1, f2, f3⟩ := hvao)
  all_goals
    have hO5 := hO4.move (ok' := fun k => ((ok k ∧ k < w.heap.size) ∨ w3.heap.size + 1 ≤ k) ∧ k ≠ g ∧ k < w4.heap.size) rfl (fun h => h.2.1 rfl) (fun k hk hlt => ⟨⟨.inl hk.1, hk.2.1, hlt⟩, rfl⟩)
    have hO6 := OwnN.put (P := fun k => (ok k ∧ k < w.heap.size) ∨ w3.heap.size + 1 ≤ k) hg hO5 hi1 ht4 (Sl_mono S4 (fun k hk hlt => by simp only [World.drew, World.size_alloc] at hk; rcases hk with hk | hk; exact ⟨.inl hk, by omega⟩; exact ⟨.inr hk, by omega⟩))
    have hv24 := ((HV2'.out.later ((Bl.refl _).al _)).later ((Bl.refl _).dr.call hb4)).move (set4O_block (k := y.k) (n := y.n) (t := y.t) (A := A4) (m := y.is.length) (c := c4) (b := g) (o := i * 4) _ (by omega))
    have hn4 := (((VarAt.new w3 4 0 ⟨#[]⟩ (some ⟨g, 0, none⟩) rows.length cap 24).later ((Bl.refl _).dr.call hb4)).move (set4O_block (k := y.k) (n := y.n) (t := y.t) (A := A4) (m := y.is.length) (c := c4) (b := g) (o := i * 4) _ (by omega))).1
    have hB5 := set4O_below (b := g) (o := i * 4) (k := y.k) (n := y.n) (t := y.t) (A := A4) (m := y.is.length) (c := c4) ((hB3.al _).dr.call hb4) (by omega)
    have hsz5 : (set4O w4 g (i * 4) y.k y.n y.t A4 y.is.length c4).heap.size = w4.heap.size := set4O_size
    have hll : (rows.map (·.x)).set i y = v.is.set s.n.toNat y := by rw [hrows.out, hin]; simp
    clear z0 z1 z2 z3 f0 f1 f2 f3 xb0 xb1 xb2 xb3 ob0 ob1 ob2 ob3 n0 n1 n2 n3
    obtain ⟨W5, hW5⟩ : ∃ W5, W5 = set4O w4 g (i * 4) y.k y.n y.t A4 y.is.length c4 := ⟨_, rfl⟩
    rw [← hW5] at hO6 hv24 hn4 hB5 hsz5
    unfold set4O at hW5
    rw [← hW5]
    rw [hll] at hO6
    clear hW5 hll
    have HV24 := Lib.hid hv24
    obtain ⟨⟨z0, z1, z2, z3⟩, f0, f1, f2, f3⟩ := hv24
    obtain ⟨n0, n1, n2, n3⟩ := hn4
    replace hO6 := Lib.hid hO6
    replace hsz5 := Lib.hid hsz5
    replace hin := Lib.hid hin
    go_wp2
    obtain ⟨q0, q1, q2, q3⟩ := (set4_var (k := 4) (n := 0) (t := ⟨#[]⟩) (A := some ⟨g, 0, none⟩) (m := rows.length) (c := cap) HV24.out).1
    change bodyPost _ _ _ _ _ (set4 W5 (w.heap.size + 1 + 1) 4 0 ⟨#[]⟩ (some ⟨g, 0, none⟩) rows.length cap)
    refine bodyPost_ret (v := .agg #[.int .i64 4, .int .i64 0, .string ⟨#[]⟩, .slice (some ⟨g, 0, none⟩) rows.length cap]) (by simp [results, Tryd.results45, go_sem, q0, q1, q2, q3]) rfl ⟨_, rfl, ?_, set4_below hB5 (by omega)⟩
    exact IsV_own (hO6.out.set4 (by omega) (by omega) _ _ _ _ _ _) (by rw [List.length_set]; simp only [big]; omega) _ _ (by decide) (fun k hk => by rcases hk with hk | hk; exact .inl hk.1; exact .inr (by omega)) (fun k hk => .inr (by omega))

end Go.Proofs.YtmbgaaoneaplmaaDoor
