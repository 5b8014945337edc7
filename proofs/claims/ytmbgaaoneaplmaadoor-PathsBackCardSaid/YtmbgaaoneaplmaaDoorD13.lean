/- Walks: paths.put, a map, not there. -/
import Derived.Test.YtmbgaaoneaplmaaDoorD6
import Derived.Deep.RegionWith
import Derived.RegionDies
import Derived.Deep.Cut
namespace Go.Proofs.YtmbgaaoneaplmaaDoor
open Go.RowKit

set_option maxHeartbeats 2000000 in
set_option maxRecDepth 100000 in
theorem put_map_miss (s : Val) (r : List Val) (v x : Val) (ok : Nat → Prop) (A B D : Option Addr) (c m d p : Nat) (w : World) (hv : Sl w ok v.is A v.is.length c) (hl : Sl w ok (s :: r) B m d) (ih : PutC r) (hx : Sl w ok x.is D x.is.length p) (hxt : x.t.size ≤ big) (hev : EvV v) (hes : EvV s) (her : EvL r) (hk : v.k = 0 ∨ v.k = 6) (y : Val) (hp : putF (partF v s).1 r x = some y) (i : Nat) (HKEY : Hid (keyF v.is s 0 = (i, false))) :
    Calls Tryd.prog 45 #[.agg #[.int .i64 v.k, .int .i64 v.n, .string v.t, .slice A v.is.length c], .slice B m d, .agg #[.int .i64 x.k, .int .i64 x.n, .string x.t, .slice D x.is.length p]] w (RetV (fun k => ok k ∨ w.heap.size ≤ k) ⟨6, 0, ⟨#[]⟩, (v.is.take i ++ ([s, y] ++ v.is.drop i))⟩ w) := by
  have hm : r.length + 1 = m := hl.1
  have HM := Lib.hid hm
  have hm0 : (1 : Int) ≤ (m : Int) := by omega
  have hm1 : ¬ ((m : Int) = 0) := by omega
  have hm2 : 0 < m := by omega
  have hm3 : (m : Int) ≤ (d : Int) := by have := hl.2.1; omega
  have hmd : m ≤ d := hl.2.1
  clear hm
  have hmb : m ≤ 140737488355328 := hl.le
  obtain ⟨b, o, A', c', rfl, hb, hlt, e0, e1, e2, e3, hst, hss⟩ := RepL_get hl.2.2.2 (i := 0) rfl
  simp only [Nat.zero_mul, Nat.add_zero] at e0 e1 e2 e3
  have hl1 : b < w.heap.size + 1 := by omega
  have hl2 : b < w.heap.size + 1 + 1 := by omega
  have hl3 : b < w.heap.size + 1 + 1 + 1 := by omega
  obtain ⟨B', m', hcut, HS⟩ := cut_rest hl
  replace HS := Lib.hid HS
  have HK := Lib.hid hk
  have HP := Lib.hid hp
  have hlen : v.is.length ≤ 100000 := ((EvV_def v).1 hev).2.1
  have HE := Lib.hid (((EvV_def v).1 hev).1 (by omega) (by omega))
  clear hk hp
  go_enter Tryd.func45, Tryd.ntmps45
  go_wp2_with fail
  go_region
  go_wp2_with fail
  refine (part_at v s _ _ _ _ _ _ (Sl_bl (Sl_bound hv) ((((((Bl.refl _).al _).al _).al _).al _).dr)) (Sl_bl (Sl_bound hss) ((((((Bl.refl _).al _).al _).al _).al _).dr)) hst (fun _ => HE.out)).mono ?_
  rintro e w1 ⟨v1, rfl, ⟨A1, c1, rfl, ht1, S1⟩, hb1⟩
  obtain ⟨hv0, hv1, hv2, hv3, hB1, hsz1⟩ := four_boxes w w1 _ _ _ _ _ _ _ _ _ _ _ _ _ _ _ _ _ _ hb1
  have HV0 := Lib.hid hv0
  have HV1 := Lib.hid hv1
  have HV2 := Lib.hid hv2
  have HV3 := Lib.hid hv3
  have hz0 := hv0.lt
  have hz1 := hv1.lt
  have hz3 := hv3.lt
  obtain ⟨a0, a1, a2, a3⟩ := hv0
  obtain ⟨s0, s1, s2, s3⟩ := hv3
  clear hv1 hv2 e0 e1 e2 e3 hcut
  rcases HK.out with hk | hk
  all_goals
    have h4 : (v.k == 4) = false := by simp [hk]
    go_wp2_with fail
    have HVO := Lib.hid (BoxAt.new w1 (partF v s).1.k (partF v s).1.n (partF v s).1.t A1 (partF v s).1.is.length c1 24)
    have hevp := EvV_part hev hes
    refine (clone_calls v.is (fun k => ok k ∧ k < w.heap.size) _ _ _ _ (Sl_bl (Sl_bound hv) (hB1.al _)) hlen).mono ?_
    rintro e w3 ⟨cv, rfl, hcs, hb3⟩
    have hO := OwnN.of_S (P := fun k => ok k ∧ k < w.heap.size) hcs (fun k h _ => h)
    have hB3 := (hB1.al _).call hb3
    clear a0 a1 a2 a3 s0 s1 s2 s3
    have hvo := HVO.out.later hb3
    have hv1 := HV1.out.al1 hb3
    have hv2 := HV2.out.al1 hb3
    have hv3 := HV3.out.al1 hb3
    have hb3s : w1.heap.size + 1 ≤ w3.heap.size := by have := hb3.size; simp at this; omega
    obtain ⟨A9, c9, rfl, hO9, hown9⟩ := hO.form
    rw [World.size_alloc] at hO9 hown9
    have HVX := Lib.hid hv1
    have HVS := Lib.hid hv3
    have HV2' := Lib.hid hv2
    have hs1 : w.heap.size + 1 < w3.heap.size := by omega
    have hs4 : w1.heap.size < w3.heap.size := by omega
    obtain ⟨xb0, xb1, xb2, xb3⟩ := hv1
    obtain ⟨ob0, ob1, ob2, ob3⟩ := hvo
    go_wp2_with fail
    refine (ih (partF v s).1 x (fun k => ok k ∧ k < w.heap.size) A1 B' D c1 m' m' p _ ?_ ht1 ?_ ?_ hxt hevp her).mono ?_
    · exact Sl_bl S1 ((((Bl.refl _).al _).call hb3).al _)
    · exact Sl_bl (Sl_bound HS.out) (hB3.al _)
    · exact Sl_bl (Sl_bound hx) (hB3.al _)
    rintro e w4 hR
    rw [HP.out] at hR
    obtain ⟨yv, rfl, ⟨A4, c4, rfl, ht4, S4⟩, hb4⟩ := hR
    have hB4 := (hB3.al _).call hb4
    have hN4 := (VarAt.new w3 6 0 ⟨#[]⟩ A9 v.is.length c9 24).later hb4
    have hOw4 := (hO9.later ((Bl.refl _).al _)).later hb4
    have hv34 := HVS.out.al1 hb4
    have hv24 := HV2'.out.al1 hb4
    have HN4 := Lib.hid hN4
    have HS4 := Lib.hid hv34
    have hb4s : w3.heap.size + 1 ≤ w4.heap.size := by have := hb4.size; simp only [World.size_alloc] at this; exact this
    have hs41 : w3.heap.size < w4.heap.size := by omega
    have hs42 : w.heap.size + 1 + 1 + 1 < w4.heap.size := hv34.lt
    clear xb0 xb1 xb2 xb3 ob0 ob1 ob2 ob3
    obtain ⟨⟨n0, n1, n2, n3⟩, nf⟩ := hN4
    obtain ⟨sb0, sb1, sb2, sb3⟩ := hv34
    go_wp2_with fail
    refine (key_at _ _ _ v.is s _ _ _ _ _ _ _ _ (Sl_bl (hOw4.sl (by simp only [big]; omega)) ((Bl.refl _).al _)) (Sl_bl (Sl_bound hss) (hB4.al _)) HKEY.out).mono ?_
    rintro e w5 ⟨rfl, hb5⟩
    have hB5 := (hB4.al _).call hb5
    have hN5 := HN4.out.al1 hb5
    have hY5 := (BoxAt.new w4 y.k y.n y.t A4 y.is.length c4 24).later hb5
    have hS5 := HS4.out.al1 hb5
    have hR5 := hv24.al1 hb5
    have hOw5 := (hOw4.later ((Bl.refl _).al _)).later hb5
    have hb5s : w4.heap.size + 1 ≤ w5.heap.size := by have := hb5.size; simp only [World.size_alloc] at this; exact this
    have hs51 : w3.heap.size < w5.heap.size := by omega
    have hs52 : w4.heap.size < w5.heap.size := by omega
    have hs53 : w.heap.size + 1 + 1 + 1 < w5.heap.size := by omega
    have HN5 := Lib.hid hN5
    have HR5 := Lib.hid hR5
    clear n0 n1 n2 n3 nf sb0 sb1 sb2 sb3
    have S5 : Sl w5 (fun k => (ok k ∧ k < w.heap.size) ∨ w3.heap.size + 1 ≤ k) y.is A4 y.is.length c4 := Sl_mono (Sl_bl S4 (((Bl.refl _).al _).call hb5)) (fun k hk _ => by simpa only [World.size_alloc] using hk)
    obtain ⟨⟨n0, n1, n2, n3⟩, f0, f1, f2, f3⟩ := hN5
    obtain ⟨yb0, yb1, yb2, yb3⟩ := hY5
    obtain ⟨sb0, sb1, sb2, sb3⟩ := hS5
    have hi : i ≤ v.is.length := by
      have := keyF_le v.is s 0
      rw [HKEY.out] at this
      simpa using this
    have hOw6 := hOw5.mono (P' := fun k => (ok k ∧ k < w.heap.size) ∨ w3.heap.size + 1 ≤ k) (fun k hk _ => .inl hk)
    have Ss : Sl w5 (fun k => ok k ∧ k < w.heap.size) s.is A' s.is.length c' := Sl_bl (Sl_bound hss) hB5
    have hV := heap_alloc_new w5 (.cells (flat [⟨s, A', c'⟩, ⟨y, A4, c4⟩]).toArray 24)
    have hbb : w1.heap.size + 1 ≤ (w5.alloc (.cells (flat [⟨s, A', c'⟩, ⟨y, A4, c4⟩]).toArray 24)).heap.size := by simp; omega
    have hgd : Good (w5.alloc (.cells (flat [⟨s, A', c'⟩, ⟨y, A4, c4⟩]).toArray 24)) (fun k => ((ok k ∧ k < w.heap.size) ∨ w3.heap.size + 1 ≤ k) ∧ some k ≠ (Value.slice A9 v.is.length c9).ownBlock ∧ k < (w5.alloc (.cells (flat [⟨s, A', c'⟩, ⟨y, A4, c4⟩]).toArray 24)).heap.size) [⟨s, A', c'⟩, ⟨y, A4, c4⟩] := by
      intro rr hr
      have hr' : rr = ⟨s, A', c'⟩ ∨ rr = ⟨y, A4, c4⟩ := by simpa using hr
      rcases hr' with rfl | rfl
      · exact ⟨hst, Sl_mono (Sl_bl Ss ((Bl.refl _).al _)) (fun k hk hlt => ⟨.inl hk, fun he => by have := hown9 k he.symm; omega, hlt⟩)⟩
      · exact ⟨ht4, Sl_mono (Sl_bl S5 ((Bl.refl _).al _)) (fun k hk hlt => ⟨hk, fun he => by have := hown9 k he.symm; rcases hk with hk | hk <;> omega, hlt⟩)⟩
    have hins := insert_calls (w1.heap.size + 1) (fun k => (ok k ∧ k < w.heap.size) ∨ w3.heap.size + 1 ≤ k) (.slice A9 v.is.length c9) v.is i 2 w5.heap.size _ _ (hOw6.later ((Bl.refl _).al _)) hi rfl (by omega) (by omega) hbb hV hgd (.inr (by omega)) (fun he => by have := hown9 _ he; omega)
    have hfl : (flat [⟨s, A', c'⟩, ⟨y, A4, c4⟩]).toArray = #[.int .i64 s.k, .int .i64 s.n, .string s.t, .slice A' s.is.length c', .int .i64 y.k, .int .i64 y.n, .string y.t, .slice A4 y.is.length c4] := rfl
    rw [hfl] at hins
    replace hins := Lib.hid hins
    clear hV hbb hgd hfl
    go_wp2_with fail
    refine hins.out.mono ?_
    rintro e w6 ⟨v6, rfl, hgr, hO6, hat⟩
    obtain ⟨g, cap, rows, rfl, hg, hOB, hrows⟩ := hO6.some_ (by simp)
    have hgne : g ≠ w3.heap.size := by rcases hat with hat | hat; have := hown9 g hat.symm; omega; simp only [Value.ownBlock, World.size_alloc, Option.some.injEq] at hat; omega
    have hK : ∀ k, k < w5.heap.size → some k ≠ (Value.slice A9 v.is.length c9).ownBlock → w6.heap[k]? = w5.heap[k]? := fun k hk hne => (hgr.block k (by simp; omega) hne).trans (heap_alloc_old _ _ (by omega))
    have hN6 := HN5.out.move (hK w3.heap.size (by omega) (fun he => by have := hown9 _ he.symm; omega))
    have hR6 := HR5.out.move (hK (w.heap.size + 1 + 1) (by omega) (fun he => by have := hown9 _ he.symm; omega))
    have HN6 := Lib.hid hN6
    have hn6l := hN6.1.lt
    have hB6 : Below w.heap.size w w6 := (hB5.al _).grown hgr (by simp; omega) (fun k hk => by have := hown9 k hk; omega)
    clear n0 n1 n2 n3 f0 f1 f2 f3 yb0 yb1 yb2 yb3 sb0 sb1 sb2 sb3
    obtain ⟨⟨n0, n1, n2, n3⟩, f0, f1, f2, f3⟩ := hN6
    go_upto_region 24 with fail
    obtain ⟨W8, hW8⟩ : ∃ W8, W8 = w6.setCell ⟨w3.heap.size, 3, none⟩ (.slice (some ⟨g, 0, none⟩) rows.length cap) := ⟨_, rfl⟩
    rw [← hW8]
    have hne8 : ∀ k, k ≠ w3.heap.size → W8.heap[k]? = w6.heap[k]? := by intro k hk; rw [hW8]; exact Below.heap_setCell _ _ _ _ hk
    have hsz8 : W8.heap.size = w6.heap.size := by rw [hW8]; simp
    have hO8 : OwnN W8 (w1.heap.size + 1) (fun k => (ok k ∧ k < w.heap.size) ∨ w3.heap.size + 1 ≤ k) (.slice (some ⟨g, 0, none⟩) rows.length cap) (v.is.take i ++ ([s, y] ++ v.is.drop i)) := .inr ⟨g, cap, rows, rfl, hg, hOB.move (hne8 g hgne) (fun h => h.2.1 rfl) (fun k hk hlt => ⟨⟨hk.1, hk.2.1, by rw [hsz8]; exact hk.2.2⟩, hne8 k (by rcases hk.1 with h | h <;> omega)⟩), hrows⟩
    have hv8 := hR6.move (hne8 _ (by omega))
    have hn8 : BoxAt W8 w3.heap.size 6 0 ⟨#[]⟩ (some ⟨g, 0, none⟩) rows.length cap := by rw [hW8]; exact HN6.out.set3.1
    have hB8 : Below w.heap.size w W8 := by rw [hW8]; exact hB6.setCell (p := ⟨w3.heap.size, 3, none⟩) (by simp only []; omega) _
    clear n0 n1 n2 n3 f0 f1 f2 f3 hW8
    have HV8 := Lib.hid hv8
    have hr8 := hv8.1.lt
    have hr9 := hn8.lt
    obtain ⟨⟨z0, z1, z2, z3⟩, f0, f1, f2, f3⟩ := hv8
    obtain ⟨n0, n1, n2, n3⟩ := hn8
    replace hO8 := Lib.hid hO8
    replace hsz8 := Lib.hid hsz8
    go_wp2
    obtain ⟨q0, q1, q2, q3⟩ := (set4_var (k := 6) (n := 0) (t := ⟨#[]⟩) (A := some ⟨g, 0, none⟩) (m := rows.length) (c := cap) HV8.out).1
    change bodyPost _ _ _ _ _ (set4 W8 (w.heap.size + 1 + 1) 6 0 ⟨#[]⟩ (some ⟨g, 0, none⟩) rows.length cap)
    refine bodyPost_ret (v := .agg #[.int .i64 6, .int .i64 0, .string ⟨#[]⟩, .slice (some ⟨g, 0, none⟩) rows.length cap]) (by simp [results, Tryd.results45, go_sem, q0, q1, q2, q3]) rfl ⟨_, rfl, ?_, set4_below hB8 (by omega)⟩
    exact IsV_own (hO8.out.set4 (by omega) (by omega) _ _ _ _ _ _) (by simp [big]; omega) _ _ (by decide) (fun k hk => by rcases hk with hk | hk; exact .inl hk.1; exact .inr (by omega)) (fun k hk => .inr (by omega))

end Go.Proofs.YtmbgaaoneaplmaaDoor
