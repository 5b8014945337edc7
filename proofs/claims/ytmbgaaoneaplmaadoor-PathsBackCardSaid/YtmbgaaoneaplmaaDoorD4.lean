/- Walks: slices.Insert, where there is no room. -/
import Derived.Test.YtmbgaaoneaplmaaDoorD3
namespace Go.Proofs.YtmbgaaoneaplmaaDoor
open Go.RowKit

set_option maxHeartbeats 2000000 in
set_option maxRecDepth 100000 in
theorem insert_grow (b n cap i m vb : Nat) (rows news : List Cel) (tail : List Value) (w : World) (hO : w.heap[b]? = some (.cells (flat rows ++ tail).toArray 24 (0, 0))) (hn : rows.length = n) (hm : news.length = m) (h0 : 0 < m) (hi : i < n) (hnc : n ≤ cap) (hroom : cap < n + m) (hbig : (n + m) * 56 ≤ 140737488355328)
    (hV : w.heap[vb]? = some (.cells (flat news).toArray 24 (0, 0))) :
    Calls Tryd.prog 91 #[.slice (some ⟨b, 0, none⟩) n cap, .int .i64 (i : Int), .slice (some ⟨vb, 0, none⟩) m m] w fun e w' => ∃ cap', e = .returned (.slice (some ⟨w.heap.size, 0, none⟩) (n + m) cap') ∧ w.grownBy w' (some w.heap.size) ∧ n + m ≤ cap' ∧ cap' ≤ 9223372036854775807 ∧
      ∃ tail', w'.heap[w.heap.size]? = some (.cells (flat (rows.take i ++ (news ++ rows.drop i)) ++ tail').toArray 24 (0, 0)) ∧ (flat (rows.take i ++ (news ++ rows.drop i))).length + tail'.length = cap' * 4 := by
  have hz1 : ¬ ((m : Int) = 0) := by omega
  have hz2 : ¬ ((i : Int) = (n : Int)) := by omega
  have hz3 : (cap : Int) < (n : Int) + (m : Int) := by omega
  have hw1 : IntKind.i64.wrap ((i : Int) + (m : Int)) = (i : Int) + (m : Int) := by rw [IntKind.wrap_i64]; omega
  have hw2 : IntKind.i64.wrap ((n : Int) + (m : Int)) = (n : Int) + (m : Int) := by rw [IntKind.wrap_i64]; omega
  have hw3 : IntKind.i64.wrap ((n : Int) + (m : Int) - (i : Int)) = (n : Int) + (m : Int) - (i : Int) := by rw [IntKind.wrap_i64]; omega
  have hb1 : (0 : Int) ≤ (i : Int) + (m : Int) := by omega
  have hin : i ≤ n := by omega
  have hin' : (i : Int) ≤ (cap : Int) := by omega
  have htn : ((i : Int) + (m : Int)).toNat = i + m := by omega
  have hb3 : (i : Int) ≤ (n : Int) := by omega
  have hci : ¬ (cap = i) := by omega
  obtain ⟨i0, hi0, hz0, hzs, hzb⟩ := info_parts24
  have hbw : b < w.heap.size := (Array.getElem?_eq_some_iff.1 hO).1
  have hvw : vb < w.heap.size := (Array.getElem?_eq_some_iff.1 hV).1
  have hlt : (flat (rows.take i)).length = i * 4 := by rw [flat_length, List.length_take]; omega
  have hld : (flat (rows.drop i)).length = (n - i) * 4 := by rw [flat_length, List.length_drop]; omega
  have hln : (flat news).length = m * 4 := by rw [flat_length, hm]
  have hfl : (flat rows).length = n * 4 := by rw [flat_length, hn]
  have hrow := slice_at hO
  have hkk : (n : Int) + (m : Int) - (i : Int) = ((n + m - i : Nat) : Int) := by omega
  have hik : i + (n + m - i) = n + m := by omega
  have hold : (Builtin.firstCells i0.size i (.slice (some ⟨b, 0, none⟩) i cap)).run Tryd.prog w.drew = .ok (flat (rows.take i)).toArray w.drew := by
    rw [hzs]
    refine run_firstCells_some (P := Tryd.prog) w.drew 4 i ⟨b, 0, none⟩ i cap (flat (rows.take i)) hlt (fun j v hj => ?_)
    have hjl := (List.getElem?_eq_some_iff.1 hj).1
    rw [Addr.add_lit, Nat.zero_add]
    refine (hrow j).trans ?_
    rw [flat_split rows i, List.append_assoc, List.getElem?_append_left hjl]
    exact hj
  have hrz : ∀ ty, ∃ G Z, (Builtin.append_ #[22, 3] ty #[.slice (some ⟨b, 0, none⟩) i cap, .int .i64 ((n : Int) + (m : Int) - (i : Int))]).run Tryd.prog w =
      .ok (.slice (some ⟨w.heap.size, 0, none⟩) (n + m) G) (w.drew.alloc (.cells (flat (rows.take i) ++ Z).toArray 24)) ∧ n + m ≤ G ∧ G ≤ 9223372036854775807 ∧ Z.length = (G - i) * 4 ∧ G = grownCap w (n + m) cap 24 ∧ Z = (Builtin.zeroCells (Value.agg #[.int .i64 0, .int .i64 0, .string ⟨#[]⟩, .slice none 0 0]).cells (n + m - i) ++ Builtin.zeroCells (Value.agg #[.int .i64 0, .int .i64 0, .string ⟨#[]⟩, .slice none 0 0]).cells (grownCap w (n + m) cap 24 - (n + m))).toList := fun ty => by
    have h := Lib.run_append_grow_zeros w 22 3 ty 24 i0 _ .i64 .i64 Tryd.underlying22 Tryd.underlying3 hi0 hz0 (some ⟨b, 0, none⟩) i cap _ hold (n + m - i) (by omega) (by omega) (by omega) (by omega) (by rw [hzb]; omega) (by rw [hzb, hik]; exact growslice_fits hroom hbig)
    rw [hik] at h
    have hge := grownCap_ge w (n + m) cap 24
    have hle := grownCap_le_maxLen w (n + m) cap 24 (by unfold maxLen; omega)
    unfold maxLen at hle
    refine ⟨_, _, ?_, hge, hle, ?_, rfl, rfl⟩
    · rw [hkk, h]
      congr 3
      simp
    · rw [Array.toList_append, List.length_append, Array.length_toList, Array.length_toList, size_zeroCells, size_zeroCells]
      have : (Value.agg #[.int .i64 0, .int .i64 0, .string ⟨#[]⟩, .slice none 0 0]).cells.size = 4 := rfl
      rw [this]; omega
  obtain ⟨G, Z, hrz0, hGn, hG63, hZ, hGe, hZe⟩ := hrz 0
  have hrz' : ∀ ty, (Builtin.append_ #[22, 3] ty #[.slice (some ⟨b, 0, none⟩) i cap, .int .i64 ((n : Int) + (m : Int) - (i : Int))]).run Tryd.prog w =
      .ok (.slice (some ⟨w.heap.size, 0, none⟩) (n + m) G) (w.drew.alloc (.cells (flat (rows.take i) ++ Z).toArray 24)) := fun ty => by
    obtain ⟨G', Z', h1, _, _, _, h5, h6⟩ := hrz ty
    rw [h1, h5, h6, hGe, hZe]
  clear hrz hrz0 hGe hZe hold
  obtain ⟨W1, hW1⟩ : ∃ W1, W1 = w.drew.alloc (.cells (flat (rows.take i) ++ Z).toArray 24) := ⟨_, rfl⟩
  rw [← hW1] at hrz'
  have hO1 : W1.heap[w.heap.size]? = some (.cells (flat (rows.take i) ++ Z).toArray 24 (0, 0)) := by rw [hW1]; exact heap_alloc_new w.drew _
  have hV1 : W1.heap[vb]? = some (.cells (flat news).toArray 24 (0, 0)) := by rw [hW1, heap_alloc_old w.drew _ hvw]; exact hV
  have hb1' : W1.heap[b]? = some (.cells (flat rows ++ tail).toArray 24 (0, 0)) := by rw [hW1, heap_alloc_old w.drew _ hbw]; exact hO
  have hg1 : w.grownBy W1 (some w.heap.size) := by rw [hW1]; exact ⟨rfl, rfl, rfl, by simp, fun k hk _ => heap_alloc_old w.drew _ hk⟩
  obtain ⟨W2, hW2⟩ : ∃ W2, W2 = W1.setRow w.heap.size (flat (rows.take i) ++ (flat news ++ Z.drop (flat news).length)).toArray := ⟨_, rfl⟩
  have hrowv := slice_at hV1
  have hcp1 : ∀ ty dc, (Builtin.copy_ #[22, 22] ty #[.slice (some ⟨w.heap.size, i * 4, none⟩) (n + m - i) dc, .slice (some ⟨vb, 0, none⟩) m m]).run Tryd.prog W1 = .ok (goInt (Nat.min m (n + m - i))) W2 := fun ty dc => by
    rw [hW2]
    refine run_copy4 W1 ty _ _ _ dc ⟨vb, 0, none⟩ _ m (flat (rows.take i)) Z (flat news) hO1 (by omega) (by rw [hln]; simp only [Nat.min_def]; split <;> omega) (fun j v hj => ?_) (by omega) (flat_one _)
    rw [Addr.add_lit, Nat.zero_add]
    exact (hrowv j).trans hj
  have hO2 : W2.heap[w.heap.size]? = some (.cells ((flat (rows.take i) ++ flat news) ++ Z.drop (flat news).length).toArray 24 (0, 0)) := by
    rw [hW2, setRow_heap W1 _ _ _ 24 (0, 0) hO1, List.append_assoc]
  have hb2' : W2.heap[b]? = some (.cells (flat rows ++ tail).toArray 24 (0, 0)) := by rw [hW2, setRow_other _ _ _ _ (by omega)]; exact hb1'
  have hg2 : w.grownBy W2 (some w.heap.size) := by rw [hW2]; exact grownBy_setRow hg1
  have hrowb := slice_at hb2'
  obtain ⟨W3, hW3⟩ : ∃ W3, W3 = W2.drew.setRow w.heap.size ((flat (rows.take i) ++ flat news) ++ (flat (rows.drop i) ++ (Z.drop (flat news).length).drop (flat (rows.drop i)).length)).toArray := ⟨_, rfl⟩
  have hcp2 : ∀ ty dc sc, (Builtin.copy_ #[22, 22] ty #[.slice (some ⟨w.heap.size, (i + m) * 4, none⟩) (n + m - (i + m)) dc, .slice (some ⟨b, i * 4, none⟩) (n - i) sc]).run Tryd.prog W2.drew = .ok (goInt (Nat.min (n - i) (n + m - (i + m)))) W3 := fun ty dc sc => by
    rw [hW3]
    refine run_copy4 W2.drew ty _ _ _ dc ⟨b, i * 4, none⟩ _ sc (flat (rows.take i) ++ flat news) _ (flat (rows.drop i)) hO2 (by rw [List.length_append]; omega) (by rw [hld]; simp only [Nat.min_def]; split <;> omega) (fun j v hj => ?_) (by rw [List.length_drop]; omega) (flat_one _)
    have hjl := (List.getElem?_eq_some_iff.1 hj).1
    rw [Addr.add_lit]
    refine (hrowb _).trans ?_
    rw [flat_split rows i, List.append_assoc, List.getElem?_append_right (by omega), List.getElem?_append_left (by omega), hlt, Nat.add_sub_cancel_left]
    exact hj
  have hg3 : w.grownBy W3 (some w.heap.size) := by rw [hW3]; exact grownBy_setRow (w := W2.drew) ⟨hg2.1, hg2.2, hg2.3, hg2.4, hg2.5⟩
  have hO3 : W3.heap[w.heap.size]? = some (.cells (flat (rows.take i ++ (news ++ rows.drop i)) ++ (Z.drop (flat news).length).drop (flat (rows.drop i)).length).toArray 24 (0, 0)) := by
    rw [hW3, setRow_heap W2.drew _ _ _ 24 (0, 0) hO2, flat_append, flat_append]
    simp only [List.append_assoc]
  have hl3 : (flat (rows.take i ++ (news ++ rows.drop i))).length + ((Z.drop (flat news).length).drop (flat (rows.drop i)).length).length = G * 4 := by
    rw [flat_append, flat_append, List.length_append, List.length_append, List.length_drop, List.length_drop]; omega
  have hGi : ¬ (G = i) := by omega
  have hGim : ¬ (G = i + m) := by omega
  replace hO3 := Lib.hid hO3
  replace hl3 := Lib.hid hl3
  clear hW3 hW2 hW1 hO1 hO2 hV1 hrowv hrowb hrow hb1' hb2' hlt hld hln hfl hO hV hik hkk hZ hi0 hz0 hzs hzb hg1 hg2
  go_enter Tryd.func91, Tryd.ntmps91
  go_wp2_with (first
    | (at_builtin; refine Lib.wpList_append_run _ rfl _ _ _ _ rfl _ _ rfl rfl _ _ (hrz' _) ?_)
    | (at_builtin; refine wpList_copy_runI _ rfl _ _ 22 22 rfl _ _ rfl rfl (hcp1 _ _) ?_))
  go_region_law (refine step_copy_runI rfl _ _ 22 22 rfl _ _ (by simp [Act.eval, Act.put]) (by simp [Act.eval, Act.put]) (hcp2 _ _ _) ?_)
  go_wp2
  go_ret
  exact ⟨G, rfl, hg3, hGn, hG63, _, hO3.out, hl3.out⟩
end Go.Proofs.YtmbgaaoneaplmaaDoor
