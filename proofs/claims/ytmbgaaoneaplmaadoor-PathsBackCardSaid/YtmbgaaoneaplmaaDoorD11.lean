/- Walks: paths.put, a map. -/
import Derived.Test.YtmbgaaoneaplmaaDoorD6
import Derived.Deep.RegionWith
import Derived.RegionDies
import Derived.Deep.Cut
namespace Go.Proofs.YtmbgaaoneaplmaaDoor
open Go.RowKit

set_option maxHeartbeats 2000000 in
set_option maxRecDepth 100000 in
theorem put_other (s : Val) (r : List Val) (v x : Val) (ok : Nat → Prop) (A B D : Option Addr) (c m d p : Nat) (w : World) (hv : Sl w ok v.is A v.is.length c) (hl : Sl w ok (s :: r) B m d) (hk : v.k ≠ 0 ∧ v.k ≠ 4 ∧ v.k ≠ 6) :
    Calls Tryd.prog 45 #[.agg #[.int .i64 v.k, .int .i64 v.n, .string v.t, .slice A v.is.length c], .slice B m d, .agg #[.int .i64 x.k, .int .i64 x.n, .string x.t, .slice D x.is.length p]] w fun e w' => e = .panicked [{ v := .iface 122 (.agg #[.int .i64 260]), recovered := false }] ∧ Below w.heap.size w w' := by
  have hm : r.length + 1 = m := hl.1
  have HM := Lib.hid hm
  have hm0 : (1 : Int) ≤ (m : Int) := by omega
  have hm1 : ¬ ((m : Int) = 0) := by omega
  have hm2 : 0 < m := by omega
  have hm3 : (m : Int) ≤ (d : Int) := by have := hl.2.1; omega
  have hmd : m ≤ d := hl.2.1
  clear hm
  have hmb : m ≤ 140737488355328 := hl.le
  obtain ⟨b, o, A', c', rfl, hb, hlt, e0, e1, e2, e3, hst, hss⟩ := RepL_get hl.2.2.2 (i := 0) rfl
  simp only [Nat.zero_mul, Nat.add_zero] at e0 e1 e2 e3
  have hl1 : b < w.heap.size + 1 := by omega
  have hl2 : b < w.heap.size + 1 + 1 := by omega
  have hl3 : b < w.heap.size + 1 + 1 + 1 := by omega
  obtain ⟨B', m', hcut, HS⟩ := cut_rest hl
  replace HS := Lib.hid HS
  have HK := Lib.hid hk
  clear hk
  go_enter Tryd.func45, Tryd.ntmps45
  go_wp2_with fail
  go_region
  go_wp2_with fail
  refine (part_at v s _ _ _ _ _ _ (Sl_bl (Sl_bound hv) ((((((Bl.refl _).al _).al _).al _).al _).dr)) (Sl_bl (Sl_bound hss) ((((((Bl.refl _).al _).al _).al _).al _).dr)) hst (by have := HK.out; omega)).mono ?_
  rintro e w1 ⟨v1, rfl, ⟨A1, c1, rfl, ht1, S1⟩, hb1⟩
  obtain ⟨hv0, hv1, hv2, hv3, hB1, hsz1⟩ := four_boxes w w1 _ _ _ _ _ _ _ _ _ _ _ _ _ _ _ _ _ _ hb1
  have HV0 := Lib.hid hv0
  have HV1 := Lib.hid hv1
  have HV2 := Lib.hid hv2
  have HV3 := Lib.hid hv3
  have hz0 := hv0.lt
  have hz1 := hv1.lt
  have hz3 := hv3.lt
  obtain ⟨a0, a1, a2, a3⟩ := hv0
  obtain ⟨s0, s1, s2, s3⟩ := hv3
  clear hv1 hv2 e0 e1 e2 e3 hcut
  obtain ⟨h0, h4, h6⟩ : (v.k == 0) = false ∧ (v.k == 4) = false ∧ (v.k == 6) = false := by simpa using HK.out
  go_wp2
  exact ⟨rfl, rfl, hB1.al _⟩

set_option maxHeartbeats 2000000 in
set_option maxRecDepth 100000 in
theorem put_map_none (s : Val) (r : List Val) (v x : Val) (ok : Nat → Prop) (A B D : Option Addr) (c m d p : Nat) (w : World) (hv : Sl w ok v.is A v.is.length c) (hl : Sl w ok (s :: r) B m d) (ih : PutC r) (hx : Sl w ok x.is D x.is.length p) (hxt : x.t.size ≤ big) (hev : EvV v) (hes : EvV s) (her : EvL r) (hk : v.k = 0 ∨ v.k = 6) (hp : putF (partF v s).1 r x = none) :
    Calls Tryd.prog 45 #[.agg #[.int .i64 v.k, .int .i64 v.n, .string v.t, .slice A v.is.length c], .slice B m d, .agg #[.int .i64 x.k, .int .i64 x.n, .string x.t, .slice D x.is.length p]] w fun e w' => e = .panicked [{ v := .iface 122 (.agg #[.int .i64 260]), recovered := false }] ∧ Below w.heap.size w w' := by
  have hm : r.length + 1 = m := hl.1
  have HM := Lib.hid hm
  have hm0 : (1 : Int) ≤ (m : Int) := by omega
  have hm1 : ¬ ((m : Int) = 0) := by omega
  have hm2 : 0 < m := by omega
  have hm3 : (m : Int) ≤ (d : Int) := by have := hl.2.1; omega
  have hmd : m ≤ d := hl.2.1
  clear hm
  have hmb : m ≤ 140737488355328 := hl.le
  obtain ⟨b, o, A', c', rfl, hb, hlt, e0, e1, e2, e3, hst, hss⟩ := RepL_get hl.2.2.2 (i := 0) rfl
  simp only [Nat.zero_mul, Nat.add_zero] at e0 e1 e2 e3
  have hl1 : b < w.heap.size + 1 := by omega
  have hl2 : b < w.heap.size + 1 + 1 := by omega
  have hl3 : b < w.heap.size + 1 + 1 + 1 := by omega
  obtain ⟨B', m', hcut, HS⟩ := cut_rest hl
  replace HS := Lib.hid HS
  have HK := Lib.hid hk
  have HP := Lib.hid hp
  have hlen : v.is.length ≤ 100000 := ((EvV_def v).1 hev).2.1
  have HE := Lib.hid (((EvV_def v).1 hev).1 (by omega) (by omega))
  clear hk hp
  go_enter Tryd.func45, Tryd.ntmps45
  go_wp2_with fail
  go_region
  go_wp2_with fail
  refine (part_at v s _ _ _ _ _ _ (Sl_bl (Sl_bound hv) ((((((Bl.refl _).al _).al _).al _).al _).dr)) (Sl_bl (Sl_bound hss) ((((((Bl.refl _).al _).al _).al _).al _).dr)) hst (fun _ => HE.out)).mono ?_
  rintro e w1 ⟨v1, rfl, ⟨A1, c1, rfl, ht1, S1⟩, hb1⟩
  obtain ⟨hv0, hv1, hv2, hv3, hB1, hsz1⟩ := four_boxes w w1 _ _ _ _ _ _ _ _ _ _ _ _ _ _ _ _ _ _ hb1
  have HV0 := Lib.hid hv0
  have HV1 := Lib.hid hv1
  have HV2 := Lib.hid hv2
  have HV3 := Lib.hid hv3
  have hz0 := hv0.lt
  have hz1 := hv1.lt
  have hz3 := hv3.lt
  obtain ⟨a0, a1, a2, a3⟩ := hv0
  obtain ⟨s0, s1, s2, s3⟩ := hv3
  clear hv1 hv2 e0 e1 e2 e3 hcut
  rcases HK.out with hk | hk
  all_goals
    have h4 : (v.k == 4) = false := by simp [hk]
    go_wp2_with fail
    have HVO := Lib.hid (BoxAt.new w1 (partF v s).1.k (partF v s).1.n (partF v s).1.t A1 (partF v s).1.is.length c1 24)
    have hevp := EvV_part hev hes
    refine (clone_calls v.is (fun k => ok k ∧ k < w.heap.size) _ _ _ _ (Sl_bl (Sl_bound hv) (hB1.al _)) hlen).mono ?_
    rintro e w3 ⟨cv, rfl, hcs, hb3⟩
    have hO := OwnN.of_S (P := fun k => ok k ∧ k < w.heap.size) hcs (fun k h _ => h)
    have hB3 := (hB1.al _).call hb3
    clear a0 a1 a2 a3 s0 s1 s2 s3
    have hvo := HVO.out.later hb3
    have hv1 := HV1.out.al1 hb3
    have hv2 := HV2.out.al1 hb3
    have hv3 := HV3.out.al1 hb3
    have hb3s : w1.heap.size + 1 ≤ w3.heap.size := by have := hb3.size; simp at this; omega
    obtain ⟨A9, c9, rfl, hO9, hown9⟩ := hO.form
    rw [World.size_alloc] at hO9 hown9
    have HVX := Lib.hid hv1
    have HVS := Lib.hid hv3
    have HV2' := Lib.hid hv2
    have hs1 : w.heap.size + 1 < w3.heap.size := by omega
    have hs4 : w1.heap.size < w3.heap.size := by omega
    obtain ⟨xb0, xb1, xb2, xb3⟩ := hv1
    obtain ⟨ob0, ob1, ob2, ob3⟩ := hvo
    go_wp2_with fail
    refine (ih (partF v s).1 x (fun k => ok k ∧ k < w.heap.size) A1 B' D c1 m' m' p _ ?_ ht1 ?_ ?_ hxt hevp her).mono ?_
    · exact Sl_bl S1 ((((Bl.refl _).al _).call hb3).al _)
    · exact Sl_bl (Sl_bound HS.out) (hB3.al _)
    · exact Sl_bl (Sl_bound hx) (hB3.al _)
    rintro e w4 hR
    rw [HP.out] at hR
    obtain ⟨rfl, hb4⟩ := hR
    go_wp2
    exact ⟨rfl, rfl, (hB3.al _).call hb4⟩

end Go.Proofs.YtmbgaaoneaplmaaDoor
