/- Walks: slices.Insert, where there is room. -/
import Derived.Test.YtmbgaaoneaplmaaDoorD2
namespace Go.Proofs.YtmbgaaoneaplmaaDoor
open Go.RowKit

theorem overlaps_no (w : World) (b vb o la ca lb cb : Nat) (l l' : List Value) (hb : w.heap[b]? = some (.cells l.toArray 24 (0, 0))) (hvb : w.heap[vb]? = some (.cells l'.toArray 24 (0, 0))) (hl : 0 < l.length) (hne : vb ≠ b) :
    (callFunc 128 #[.slice (some ⟨vb, 0, none⟩) la ca, .slice (some ⟨b, o, none⟩) lb cb]).run Tryd.prog w = .ok (.value (.bool false)) w := by
  rw [run_callFunc_extern Tryd.func128 (by kernel_rfl) (by kernel_rfl) (by kernel_rfl) (e := Extern.SlicesOverlaps.overlaps #[22, 22] #[4]) (by kernel_rfl),
    Lib.run_overlaps_apart w 22 4 24 Tryd.underlying22 4 (by obtain ⟨i0, hi, _, h1, _⟩ := info_parts24; intro W; simp [sizeOf, typeInfo, hi, h1]) ⟨vb, 0, none⟩ ⟨b, o, none⟩ la ca lb cb hne 24 24 l'.length l.length (by simp [World.shape?, hvb]) (by simp [World.shape?, hb]) (by omega) (by simp [World.frozen?, hvb]) (by simp [World.frozen?, hvb])]
  rfl

set_option maxHeartbeats 2000000 in
set_option maxRecDepth 100000 in
theorem insert_shift (b n cap i m vb : Nat) (rows news : List Cel) (tail : List Value) (w : World) (hO : w.heap[b]? = some (.cells (flat rows ++ tail).toArray 24 (0, 0))) (hsz : (flat rows).length + tail.length = cap * 4) (hn : rows.length = n) (hm : news.length = m) (h0 : 0 < m) (hi : i < n) (hroom : n + m ≤ cap) (h63 : cap ≤ 9223372036854775807)
    (hV : w.heap[vb]? = some (.cells (flat news).toArray 24 (0, 0))) (hne : vb ≠ b) :
    Calls Tryd.prog 91 #[.slice (some ⟨b, 0, none⟩) n cap, .int .i64 (i : Int), .slice (some ⟨vb, 0, none⟩) m m] w fun e w' => e = .returned (.slice (some ⟨b, 0, none⟩) (n + m) cap) ∧ w.grownBy w' (some b) ∧
      ∃ tail', w'.heap[b]? = some (.cells (flat (rows.take i ++ (news ++ rows.drop i)) ++ tail').toArray 24 (0, 0)) ∧ (flat (rows.take i ++ (news ++ rows.drop i))).length + tail'.length = cap * 4 := by
  have hz1 : ¬ ((m : Int) = 0) := by omega
  have hz2 : ¬ ((i : Int) = (n : Int)) := by omega
  have hz3 : ¬ ((cap : Int) < (n : Int) + (m : Int)) := by omega
  have hw1 : IntKind.i64.wrap ((i : Int) + (m : Int)) = (i : Int) + (m : Int) := by rw [IntKind.wrap_i64]; omega
  have hw2 : IntKind.i64.wrap ((n : Int) + (m : Int)) = (n : Int) + (m : Int) := by rw [IntKind.wrap_i64]; omega
  have hb1 : (0 : Int) ≤ (i : Int) + (m : Int) := by omega
  have hin : i ≤ n := by omega
  have htn : ((i : Int) + (m : Int)).toNat = i + m := by omega
  have htn2 : ((n : Int) + (m : Int)).toNat = n + m := by omega
  have hb2 : ¬ (cap = i + m) := by omega
  have hb3 : (i : Int) ≤ (n : Int) + (m : Int) := by omega
  have hb4 : ¬ (cap = i) := by omega
  have hov := fun o lb cb => overlaps_no w b vb o m m lb cb _ _ hO hV (by rw [List.length_append]; omega) hne
  have hlt : (flat (rows.take i)).length = i * 4 := by rw [flat_length, List.length_take]; omega
  have hld : (flat (rows.drop i)).length = (n - i) * 4 := by rw [flat_length, List.length_drop]; omega
  have hln : (flat news).length = m * 4 := by rw [flat_length, hm]
  have hfl : (flat rows).length = n * 4 := by rw [flat_length, hn]
  obtain ⟨M, Y, hX, hM, hY⟩ : ∃ M Y, flat rows ++ tail = (flat (rows.take i) ++ M) ++ Y ∧ M.length = m * 4 ∧ Y.length = (cap - (i + m)) * 4 := by
    refine ⟨(flat (rows.drop i) ++ tail).take (m * 4), (flat (rows.drop i) ++ tail).drop (m * 4), ?_, ?_, ?_⟩
    · rw [List.append_assoc, List.take_append_drop, ← List.append_assoc, ← flat_split]
    · rw [List.length_take, List.length_append]; omega
    · rw [List.length_drop, List.length_append]; omega
  rw [hX] at hO
  obtain ⟨W1, hW1⟩ : ∃ W1, W1 = w.drew.setRow b ((flat (rows.take i) ++ M) ++ (flat (rows.drop i) ++ Y.drop (flat (rows.drop i)).length)).toArray := ⟨_, rfl⟩
  have hrow := slice_at hO
  have hcp1 : ∀ ty dc sc, (Builtin.copy_ #[22, 22] ty #[.slice (some ⟨b, (i + m) * 4, none⟩) (n + m - (i + m)) dc, .slice (some ⟨b, i * 4, none⟩) (n + m - i) sc]).run Tryd.prog w.drew = .ok (goInt (Nat.min (n + m - i) (n + m - (i + m)))) W1 := fun ty dc sc => by
    rw [hW1]
    refine run_copy4 w.drew ty b _ _ dc ⟨b, i * 4, none⟩ _ sc (flat (rows.take i) ++ M) Y (flat (rows.drop i)) hO (by rw [List.length_append]; omega) (by rw [hld]; simp only [Nat.min_def]; split <;> omega) (fun j v hj => ?_) (by omega) (flat_one _)
    have hjl := (List.getElem?_eq_some_iff.1 hj).1
    rw [Addr.add_lit]
    refine (hrow _).trans ?_
    rw [← hX, flat_split rows i, List.append_assoc, List.getElem?_append_right (by omega), List.getElem?_append_left (by omega), hlt, Nat.add_sub_cancel_left]
    exact hj
  have hO1 : W1.heap[b]? = some (.cells (flat (rows.take i) ++ (M ++ (flat (rows.drop i) ++ Y.drop (flat (rows.drop i)).length))).toArray 24 (0, 0)) := by
    rw [hW1, setRow_heap w.drew b _ _ 24 (0, 0) hO, List.append_assoc]
  have hV1 : W1.heap[vb]? = some (.cells (flat news).toArray 24 (0, 0)) := by
    rw [hW1, setRow_other _ _ _ _ hne]; exact hV
  have hg1 : w.grownBy W1 (some b) := by rw [hW1]; exact grownBy_setRow ⟨rfl, rfl, rfl, Nat.le_refl _, fun _ _ _ => rfl⟩
  have hrowv := slice_at hV1
  have hcp2 : ∀ ty dc, (Builtin.copy_ #[22, 22] ty #[.slice (some ⟨b, i * 4, none⟩) (n + m - i) dc, .slice (some ⟨vb, 0, none⟩) m m]).run Tryd.prog W1 = .ok (goInt (Nat.min m (n + m - i))) (W1.setRow b (flat (rows.take i) ++ (flat news ++ (M ++ (flat (rows.drop i) ++ Y.drop (flat (rows.drop i)).length)).drop (flat news).length)).toArray) := fun ty dc => by
    refine run_copy4 W1 ty b _ _ dc ⟨vb, 0, none⟩ _ m (flat (rows.take i)) _ (flat news) hO1 (by omega) (by rw [hln]; simp only [Nat.min_def]; split <;> omega) (fun j v hj => ?_) (by rw [List.length_append]; omega) (flat_one _)
    rw [Addr.add_lit, Nat.zero_add]
    exact (hrowv j).trans hj
  have hend : flat (rows.take i) ++ (flat news ++ (M ++ (flat (rows.drop i) ++ Y.drop (flat (rows.drop i)).length)).drop (flat news).length) = flat (rows.take i ++ (news ++ rows.drop i)) ++ Y.drop (flat (rows.drop i)).length := by
    rw [List.drop_left' (by omega), flat_append, flat_append]
    simp only [List.append_assoc]
  obtain ⟨W2, hW2⟩ : ∃ W2, W2 = W1.setRow b (flat (rows.take i) ++ (flat news ++ (M ++ (flat (rows.drop i) ++ Y.drop (flat (rows.drop i)).length)).drop (flat news).length)).toArray := ⟨_, rfl⟩
  have hg2 : w.grownBy W2 (some b) := by rw [hW2]; exact grownBy_setRow hg1
  have hO2 : W2.heap[b]? = some (.cells (flat (rows.take i ++ (news ++ rows.drop i)) ++ Y.drop (flat (rows.drop i)).length).toArray 24 (0, 0)) := by
    rw [hW2, setRow_heap W1 b _ _ 24 (0, 0) hO1, hend]
  have hl2 : (flat (rows.take i ++ (news ++ rows.drop i))).length + (Y.drop (flat (rows.drop i)).length).length = cap * 4 := by
    rw [flat_append, flat_append, List.length_append, List.length_append, List.length_drop]; omega
  rw [← hW2] at hcp2
  replace hO2 := Lib.hid hO2
  replace hl2 := Lib.hid hl2
  clear hW2 hW1 hend hO1 hV1 hrowv hrow hX hY hM hlt hld hln hfl hO
  go_enter Tryd.func91, Tryd.ntmps91
  go_wp2_with (simp only [hov])
  go_region_law (refine step_copy_runI rfl _ _ 22 22 rfl _ _ (by simp [Act.eval, Act.put]) (by simp [Act.eval, Act.put]) (hcp1 _ _ _) ?_)
  go_wp2_with (at_builtin; refine wpList_copy_runI _ rfl _ _ 22 22 rfl _ _ rfl rfl (hcp2 _ _) ?_)
  go_ret
  exact ⟨rfl, hg2, _, hO2.out, hl2.out⟩
end Go.Proofs.YtmbgaaoneaplmaaDoor
