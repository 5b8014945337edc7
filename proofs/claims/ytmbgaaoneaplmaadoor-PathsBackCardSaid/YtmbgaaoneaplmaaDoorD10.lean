/- Walks: paths.put, a list, one more, whole. -/
import Derived.Test.YtmbgaaoneaplmaaDoorD6
import Derived.Deep.RegionWith
import Derived.RegionDies
import Derived.Deep.Cut
namespace Go.Proofs.YtmbgaaoneaplmaaDoor
open Go.RowKit

set_option maxHeartbeats 2000000 in
set_option maxRecDepth 100000 in
theorem put_list_app_some (s : Val) (r : List Val) (v x : Val) (ok : Nat → Prop) (A B D : Option Addr) (c m d p : Nat) (w : World) (hv : Sl w ok v.is A v.is.length c) (hl : Sl w ok (s :: r) B m d) (ih : PutC r) (hx : Sl w ok x.is D x.is.length p) (hxt : x.t.size ≤ big) (hev : EvV v) (hes : EvV s) (her : EvL r) (hk : v.k = 4) (hi : idxOk v.is.length s.k s.n = false) (hs2 : s.k = 2) (hsn : s.n = v.is.length) (y : Val) (hp : putF (partF v s).1 r x = some y) :
    Calls Tryd.prog 45 #[.agg #[.int .i64 v.k, .int .i64 v.n, .string v.t, .slice A v.is.length c], .slice B m d, .agg #[.int .i64 x.k, .int .i64 x.n, .string x.t, .slice D x.is.length p]] w (RetV (fun k => ok k ∨ w.heap.size ≤ k) ⟨4, 0, ⟨#[]⟩, v.is ++ [y]⟩ w) := by
  have hm : r.length + 1 = m := hl.1
  have HM := Lib.hid hm
  have hm0 : (1 : Int) ≤ (m : Int) := by omega
  have hm1 : ¬ ((m : Int) = 0) := by omega
  have hm2 : 0 < m := by omega
  have hm3 : (m : Int) ≤ (d : Int) := by have := hl.2.1; omega
  have hmd : m ≤ d := hl.2.1
  clear hm
  have hmb : m ≤ 140737488355328 := hl.le
  obtain ⟨b, o, A', c', rfl, hb, hlt, e0, e1, e2, e3, hst, hss⟩ := RepL_get hl.2.2.2 (i := 0) rfl
  simp only [Nat.zero_mul, Nat.add_zero] at e0 e1 e2 e3
  have hl1 : b < w.heap.size + 1 := by omega
  have hl2 : b < w.heap.size + 1 + 1 := by omega
  have hl3 : b < w.heap.size + 1 + 1 + 1 := by omega
  obtain ⟨B', m', hcut, HS⟩ := cut_rest hl
  replace HS := Lib.hid HS
  have HK := Lib.hid hk
  have HI := Lib.hid hi
  have HP := Lib.hid hp
  have HS2 := Lib.hid hs2
  have HSN := Lib.hid hsn
  have hlen : v.is.length ≤ 100000 := ((EvV_def v).1 hev).2.1
  clear hk hp hs2 hsn
  go_enter Tryd.func45, Tryd.ntmps45
  go_wp2_with fail
  go_region
  go_wp2_with fail
  refine (part_at v s _ _ _ _ _ _ (Sl_bl (Sl_bound hv) ((((((Bl.refl _).al _).al _).al _).al _).dr)) (Sl_bl (Sl_bound hss) ((((((Bl.refl _).al _).al _).al _).al _).dr)) hst (by have := HK.out; omega)).mono ?_
  rintro e w1 ⟨v1, rfl, ⟨A1, c1, rfl, ht1, S1⟩, hb1⟩
  obtain ⟨hv0, hv1, hv2, hv3, hB1, hsz1⟩ := four_boxes w w1 _ _ _ _ _ _ _ _ _ _ _ _ _ _ _ _ _ _ hb1
  have HV0 := Lib.hid hv0
  have HV1 := Lib.hid hv1
  have HV2 := Lib.hid hv2
  have HV3 := Lib.hid hv3
  have hz0 := hv0.lt
  have hz1 := hv1.lt
  have hz3 := hv3.lt
  obtain ⟨a0, a1, a2, a3⟩ := hv0
  obtain ⟨s0, s1, s2, s3⟩ := hv3
  clear hv1 hv2 e0 e1 e2 e3 hcut
  have hk := HK.out
  go_wp2_with fail
  refine (index_no _ _ _ _ _ _ _ _ _ _ _ _ _ (by have := hv.2.2.1; exact this) hi).mono ?_
  rintro e w2 ⟨rfl, hb2⟩
  have hB2 := (hB1.al _).call hb2
  clear a0 a1 a2 a3 s0 s1 s2 s3 hz0 hz1 hz3
  have hv0 := HV0.out.al1 hb2
  have hv3 := HV3.out.al1 hb2
  have hz0 := hv0.lt
  have hz3 := hv3.lt
  obtain ⟨a0, a1, a2, a3⟩ := hv0
  obtain ⟨s0, s1, s2, s3⟩ := hv3
  have hs2 : (s.k != 2) = false := by simpa using HS2.out
  have hsn : (s.n != (v.is.length : Int)) = false := by simpa using HSN.out
  have hvo := (BoxAt.new w1 (partF v s).1.k (partF v s).1.n (partF v s).1.t A1 (partF v s).1.is.length c1 24).later hb2
  have hv1 := HV1.out.al1 hb2
  have hv2 := HV2.out.al1 hb2
  have hv3 := HV3.out.al1 hb2
  have HV0 := Lib.hid (HV0.out.al1 hb2)
  go_wp2_with fail
  refine (clone_calls v.is (fun k => ok k ∧ k < w.heap.size) _ _ _ _ (Sl_bl (Sl_bound hv) hB2) hlen).mono ?_
  rintro e w3 ⟨cv, rfl, hcs, hb3⟩
  have hO := OwnN.of_S (P := fun k => ok k ∧ k < w.heap.size) hcs (fun k h _ => h)
  have hB3 := hB2.call hb3
  clear a0 a1 a2 a3 s0 s1 s2 s3 hz0 hz3
  replace hvo := hvo.later hb3
  replace hv1 := hv1.later hb3
  replace hv2 := hv2.later hb3
  replace hv3 := hv3.later hb3
  have hsz2 : w1.heap.size < w2.heap.size := by have := hb2.size; simp at this; omega
  have hz0 := HV0.out.lt
  have hz2 := hv2.1.lt
  have hevp := EvV_part hev hes
  obtain ⟨A9, c9, rfl, hO9, hown9⟩ := hO.form
  have hb3s : w2.heap.size ≤ w3.heap.size := hb3.size
  have hs1 : w.heap.size + 1 < w3.heap.size := by omega
  have hs4 : w1.heap.size < w3.heap.size := by omega
  have HVX := Lib.hid hv1
  have HVO := Lib.hid hvo
  have HV2' := Lib.hid hv2
  clear hs2 hsn
  go_wp2_with (
    at_builtin
    refine wpList_append_zero rfl _ _ rfl w2.heap.size _ _ _ rfl (hO9.later (((Bl.refl _).al _).al _)) (w3.heap.size + 1) rfl (heap_two _ _ _) (by omega) (by simp; omega) ?_
    intro v9 w4 hO4 hgr hat
    obtain ⟨g, cap, rows, rfl, hg, hOB, hrows⟩ := hO4.some_ (by simp)
    have hgne : g ≠ w3.heap.size := by rcases hat with hat | hat; have := hown9 g hat.symm; omega; simp only [Value.ownBlock, World.size_alloc, Option.some.injEq] at hat; omega
    have hK : ∀ k, (k < w2.heap.size ∨ k = w3.heap.size) → w4.heap[k]? = (w3.alloc (.cells #[.int .i64 4, .int .i64 0, .string ⟨#[]⟩, .slice A9 v.is.length c9] 24)).heap[k]? := fun k hk => (hgr.block k (by simp; omega) (fun he => by have := hown9 k he.symm; omega)).trans (heap_alloc_old _ _ (by simp; omega))
    have hN4 := (VarAt.new w3 4 0 ⟨#[]⟩ A9 v.is.length c9 24).move (hK _ (.inr rfl))
    have HN4 := Lib.hid hN4
    have hn4l := hN4.1.lt
    obtain ⟨⟨z0, z1, z2, z3⟩, f0, f1, f2, f3⟩ := hN4)
  obtain ⟨W5, hW5⟩ : ∃ W5, W5 = w4.setCell ⟨w3.heap.size, 3, none⟩ (.slice (some ⟨g, 0, none⟩) rows.length cap) := ⟨_, rfl⟩
  rw [← hW5]
  have hne5 : ∀ k, k ≠ w3.heap.size → W5.heap[k]? = w4.heap[k]? := by intro k hk; rw [hW5]; exact Below.heap_setCell _ _ _ _ hk
  have hs5 : W5.heap.size = w4.heap.size := by rw [hW5]; simp
  have hn5 : VarAt W5 w3.heap.size 4 0 ⟨#[]⟩ (some ⟨g, 0, none⟩) rows.length cap := by rw [hW5]; exact HN4.out.set3
  have hB4 : Below w.heap.size w w4 := ((hB3.al _).al _).grown hgr (by simp; omega) (fun k hk => by have := hown9 k hk; omega)
  have hB5 : Below w.heap.size w W5 := by rw [hW5]; exact hB4.setCell (p := ⟨w3.heap.size, 3, none⟩) (by simp only []; omega) _
  have hs34 : w3.heap.size + 2 ≤ w4.heap.size := by have := hgr.4; simp only [World.size_alloc] at this; omega
  have hK5 : ∀ k, k < w2.heap.size → W5.heap[k]? = w3.heap[k]? := fun k hk => (hne5 k (by omega)).trans ((hK k (.inl hk)).trans (heap_alloc_old _ _ (by omega)))
  have hx5 := HVX.out.move (hK5 _ (by omega))
  have ho5 := HVO.out.move (hK5 _ (by omega))
  have hr5 := HV2'.out.move (hK5 _ (by omega))
  have S5 : Sl W5 (fun k => ok k ∧ k < w.heap.size) (partF v s).1.is A1 (partF v s).1.is.length c1 := Sl_move (fun k hk _ => ⟨hk, (hB5.block k (by have := hk.2; omega)).trans (hB1.block k (by have := hk.2; omega)).symm⟩) S1
  have hOB5 : OwnB W5 (fun k => (ok k ∧ k < w.heap.size) ∧ k ≠ g ∧ k < W5.heap.size) g cap rows := hOB.move (hne5 g hgne) (fun h => h.2.1 rfl) (fun k hk hlt => ⟨⟨hk.1, hk.2.1, by rw [hs5]; exact hk.2.2⟩, hne5 k (by have := hk.1.2; omega)⟩)
  have hgl := hOB5.lt
  have hrl : rows.length = v.is.length + 1 := by have := congrArg List.length hrows; simpa using this
  have hi1 : v.is.length < rows.length := by omega
  have hi2 : (v.is.length : Int) < (rows.length : Int) := by omega
  have hi3 : (0 : Int) ≤ (v.is.length : Int) := by omega
  obtain ⟨rw, hrw⟩ : ∃ rw, rows[v.is.length]? = some rw := ⟨rows[v.is.length], List.getElem?_eq_getElem hi1⟩
  replace hrl := Lib.hid hrl
  replace hrows := Lib.hid hrows
  have hz31 : w.heap.size + 1 < W5.heap.size := by omega
  have hz32 : w1.heap.size < W5.heap.size := by omega
  have hz33 : w3.heap.size < W5.heap.size := by omega
  clear z0 z1 z2 z3 f0 f1 f2 f3
  clear hW5
  obtain ⟨xb0, xb1, xb2, xb3⟩ := hx5
  obtain ⟨ob0, ob1, ob2, ob3⟩ := ho5
  have HN5 := Lib.hid hn5
  obtain ⟨⟨m0, m1, m2, m3⟩, g0, g1, g2, g3⟩ := hn5
  go_region_with (go_at_call 45
                  refine (ih (partF v s).1 x (fun k => ok k ∧ k < w.heap.size) A1 B' D c1 m' m' p _ ?_ ht1 ?_ ?_ hxt hevp her).mono ?_
                  · exact Sl_bl S5 (Bl.refl _).dr
                  · exact Sl_bl (Sl_bound HS.out) hB5.dr
                  · exact Sl_bl (Sl_bound hx) hB5.dr
                  rintro e w6 hR
                  rw [HP.out] at hR
                  obtain ⟨yv, rfl, ⟨A6, c6, rfl, ht6, S6⟩, hb6⟩ := hR
                  obtain ⟨n0, n1, n2, n3⟩ := (HN5.out.later ((Bl.refl _).dr.call hb6)).1
                  have hnl : W5.heap.size ≤ w6.heap.size := hb6.size
                  have hnl3 : w3.heap.size < w6.heap.size := by omega
                  have hgl6 : g < w6.heap.size := by omega
                  have hO6 := hOB5.later ((Bl.refl _).dr.call hb6)
                  have hvao := hO6.vao hrw
                  obtain ⟨⟨z0, z1, z2, z3⟩, f0, f1, f2, f3⟩ := hvao)
  all_goals
    have hO7 := hO6.move (ok' := fun k => ((ok k ∧ k < w.heap.size) ∨ W5.heap.size ≤ k) ∧ k ≠ g ∧ k < w6.heap.size) rfl (fun h => h.2.1 rfl) (fun k hk hlt => ⟨⟨.inl hk.1, hk.2.1, hlt⟩, rfl⟩)
    have hO8 := OwnN.put (P := fun k => (ok k ∧ k < w.heap.size) ∨ W5.heap.size ≤ k) hg hO7 hi1 ht6 (Sl_mono S6 (fun k hk hlt => by simp only [World.drew] at hk; rcases hk with hk | hk; exact ⟨.inl hk, by omega⟩; exact ⟨.inr hk, by omega⟩))
    have hv24 := (hr5.later ((Bl.refl _).dr.call hb6)).move (set4O_block (k := y.k) (n := y.n) (t := y.t) (A := A6) (m := y.is.length) (c := c6) (b := g) (o := v.is.length * 4) _ (by omega))
    have hn8 := ((HN5.out.later ((Bl.refl _).dr.call hb6)).move (set4O_block (k := y.k) (n := y.n) (t := y.t) (A := A6) (m := y.is.length) (c := c6) (b := g) (o := v.is.length * 4) _ (by omega))).1
    have hB8 := set4O_below (b := g) (o := v.is.length * 4) (k := y.k) (n := y.n) (t := y.t) (A := A6) (m := y.is.length) (c := c6) (hB5.dr.call hb6) (by omega)
    have hsz8 : (set4O w6 g (v.is.length * 4) y.k y.n y.t A6 y.is.length c6).heap.size = w6.heap.size := set4O_size
    have hll : (rows.map (·.x)).set v.is.length y = v.is ++ [y] := by rw [hrows.out]; simp
    clear z0 z1 z2 z3 f0 f1 f2 f3 xb0 xb1 xb2 xb3 ob0 ob1 ob2 ob3 n0 n1 n2 n3 m0 m1 m2 m3 g0 g1 g2 g3
    obtain ⟨W8, hW8⟩ : ∃ W8, W8 = set4O w6 g (v.is.length * 4) y.k y.n y.t A6 y.is.length c6 := ⟨_, rfl⟩
    rw [← hW8] at hO8 hv24 hn8 hB8 hsz8
    unfold set4O at hW8
    rw [← hW8]
    rw [hll] at hO8
    clear hW8 hll
    have HV24 := Lib.hid hv24
    obtain ⟨⟨z0, z1, z2, z3⟩, f0, f1, f2, f3⟩ := hv24
    obtain ⟨n0, n1, n2, n3⟩ := hn8
    replace hO8 := Lib.hid hO8
    replace hsz8 := Lib.hid hsz8
    go_wp2
    obtain ⟨q0, q1, q2, q3⟩ := (set4_var (k := 4) (n := 0) (t := ⟨#[]⟩) (A := some ⟨g, 0, none⟩) (m := rows.length) (c := cap) HV24.out).1
    change bodyPost _ _ _ _ _ (set4 W8 (w.heap.size + 1 + 1) 4 0 ⟨#[]⟩ (some ⟨g, 0, none⟩) rows.length cap)
    refine bodyPost_ret (v := .agg #[.int .i64 4, .int .i64 0, .string ⟨#[]⟩, .slice (some ⟨g, 0, none⟩) rows.length cap]) (by simp [results, Tryd.results45, go_sem, q0, q1, q2, q3]) rfl ⟨_, rfl, ?_, set4_below hB8 (by omega)⟩
    exact IsV_own (hO8.out.set4 (by omega) (by omega) _ _ _ _ _ _) (by simp [big]; omega) _ _ (by decide) (fun k hk => by rcases hk with hk | hk; exact .inl hk.1; exact .inr (by omega)) (fun k hk => .inr (by omega))

end Go.Proofs.YtmbgaaoneaplmaaDoor
