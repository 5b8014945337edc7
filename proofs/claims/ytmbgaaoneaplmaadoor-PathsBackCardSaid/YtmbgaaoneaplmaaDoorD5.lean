/- Walks: slices.Insert, at every place. -/
import Derived.Test.YtmbgaaoneaplmaaDoorD4
namespace Go.Proofs.YtmbgaaoneaplmaaDoor
open Go.RowKit

/-- A slice of the call's own; what its items lead to does not touch it. -/
def OwnN (w : World) (base : Nat) (P : Nat → Prop) (v : Value) (l : List Val) : Prop :=
  (v = .slice none 0 0 ∧ l = []) ∨ ∃ b cap rows, v = .slice (some ⟨b, 0, none⟩) rows.length cap ∧ base ≤ b ∧ OwnB w (fun k => P k ∧ k ≠ b ∧ k < w.heap.size) b cap rows ∧ rows.map (·.x) = l
theorem OwnN.of_row {w : World} {base n : Nat} {P : Nat → Prop} {v : Value} {rows : List Cel} (h : w.ownsRow base 24 4 v n (flat rows)) (hg : Good w (fun k => P k ∧ some k ≠ v.ownBlock ∧ k < w.heap.size) rows) : OwnN w base P v (rows.map (·.x)) := by
  have hl := h.1
  rw [flat_length] at hl
  have hn : n = rows.length := by omega
  subst hn
  rcases h.2 with ⟨rfl, h0⟩ | ⟨g, cap, cur, rfl, hb, hh, hle, hcap, hsz, htk⟩
  · exact .inl ⟨rfl, by rw [List.eq_nil_of_length_eq_zero h0]; rfl⟩
  · refine .inr ⟨g, cap, rows, rfl, hb, ⟨cur.toList.drop (rows.length * 4), ?_, ?_, by simpa [maxLen] using hcap, hg.mono (fun k hk hlt => ⟨hk.1, by have := hk.2.1; simp only [Value.ownBlock, ne_eq, Option.some.injEq] at this; exact this, hlt⟩), fun h => h.2.1 rfl⟩, rfl⟩
    · rw [hh, ← htk, List.take_append_drop]
    · have hsz' : cur.toList.length = cap * 4 := by rw [Array.length_toList, hsz]
      rw [flat_length, List.length_drop, hsz']
      omega
theorem OwnN.rows {w : World} {base : Nat} {P : Nat → Prop} {v : Value} {l : List Val} (h : OwnN w base P v l) : ∃ rows, rows.map (·.x) = l ∧ w.ownsRow base 24 4 v rows.length (flat rows) ∧ Good w (fun k => P k ∧ some k ≠ v.ownBlock ∧ k < w.heap.size) rows := by
  rcases h with ⟨rfl, rfl⟩ | ⟨b, cap, rows, rfl, hb, hO, rfl⟩
  · exact ⟨[], rfl, World.ownsRow_nil w base 24 4, fun r hr => (by cases hr)⟩
  · refine ⟨rows, rfl, hO.row hb, ?_⟩
    obtain ⟨_, _, _, _, hg, _⟩ := hO
    exact hg.mono (fun k hk hlt => ⟨hk.1, by simp only [Value.ownBlock, ne_eq, Option.some.injEq]; exact hk.2.1, hlt⟩)

theorem Sl_of_block {w : World} {ok : Nat → Prop} {b c : Nat} {rows : List Cel} (h : w.heap[b]? = some (.cells (flat rows).toArray 24 (0, 0))) (hg : Good w ok rows) (hb : ok b) (hn : rows.length ≤ big) (hc : rows.length ≤ c) : Sl w ok (rows.map (·.x)) (some ⟨b, 0, none⟩) rows.length c := by
  have hc' := slice_at h
  refine ⟨by simp, hc, hn, RepL_of_get hb (fun i x hx => ?_)⟩
  rw [List.getElem?_map] at hx
  obtain ⟨r, hr, rfl⟩ := Option.map_eq_some_iff.1 hx
  have hz := fun j hj u (hu : r.cells[j]? = some u) => (hc' (i * 4 + j)).trans ((flat_at hr j hj).trans hu)
  have := hg r (List.mem_of_getElem? hr)
  simp only [Nat.zero_add]
  exact ⟨r.A, r.c, hz 0 (by omega) _ rfl, hz 1 (by omega) _ rfl, hz 2 (by omega) _ rfl, hz 3 (by omega) _ rfl, this.1, this.2⟩

set_option maxHeartbeats 1000000 in
set_option maxRecDepth 100000 in
theorem insert_end (base n m : Nat) (v V : Value) (rows : List Cel) (vl : List Val) (A : Option Addr) (c : Nat) (ok : Nat → Prop) (w : World) (hO : w.ownsRow base 24 4 v n (flat rows)) (hn : rows.length = n) (hs : Sl w ok vl A m c) (hVe : V = .slice A m c) (h0 : 0 < m) (hlen : n + m ≤ 1000000) (hb : base ≤ w.heap.size) :
    Calls Tryd.prog 91 #[v, .int .i64 (n : Int), V] w fun e w' => ∃ v', e = .returned v' ∧ w.grownBy w' v.ownBlock ∧ ∃ news, news.map (·.x) = vl ∧ Good w ok news ∧ w'.ownsRow base 24 4 v' (rows ++ news).length (flat (rows ++ news)) ∧ (v'.ownBlock = v.ownBlock ∨ v'.ownBlock = some w.heap.size) := by
  have hz1 : ¬ ((m : Int) = 0) := by omega
  subst hVe
  subst hn
  have hO' := hO
  rcases hO'.2 with ⟨hv, hr⟩ | ⟨g, cap, cur, hv, hbg, hg, hnc, hcm, hcs, htk⟩
  · rw [hr] at hO ⊢
    subst hv
    cases A with
    | none =>
      exfalso
      have hne : vl ≠ [] := by rintro rfl; have := hs.1; simp at this; omega
      obtain ⟨y, r, rfl⟩ := List.exists_cons_of_ne_nil hne
      have hL := hs.2.2.2
      simp only [RepL] at hL
      obtain ⟨b, o, he, _⟩ := hL
      cases he
    | some ad =>
      go_enter Tryd.func91, Tryd.ntmps91
      go_wp2_with (at_builtin; refine wpList_append_rows rfl _ _ rfl base (.slice none 0 0) rows rfl (by rw [hr]; exact hO) ok _ _ _ _ rfl hs hlen hb ?_; intro v1 w1 news hm hg hown hgr hat)
      go_ret
      exact ⟨v1, rfl, hgr, news, hm, hg, hown, hat⟩
  · subst hv
    have hc : (rows.length : Int) ≤ (cap : Int) := by omega
    have h63 : cap ≤ 9223372036854775807 := by simpa [maxLen] using hcm
    cases A with
    | none =>
      exfalso
      have hne : vl ≠ [] := by rintro rfl; have := hs.1; simp at this; omega
      obtain ⟨y, r, rfl⟩ := List.exists_cons_of_ne_nil hne
      have hL := hs.2.2.2
      simp only [RepL] at hL
      obtain ⟨b, o, he, _⟩ := hL
      cases he
    | some ad =>
      go_enter Tryd.func91, Tryd.ntmps91
      go_wp2_with (at_builtin; refine wpList_append_rows rfl _ _ rfl base (.slice (some ⟨g, 0, none⟩) rows.length cap) rows rfl hO ok _ _ _ _ rfl hs hlen hb ?_; intro v1 w1 news hm hg hown hgr hat)
      all_goals (go_ret; exact ⟨v1, rfl, hgr, news, hm, hg, by rw [← List.length_append]; exact hown, hat⟩)

/-- slices.Insert of an array's items. -/
theorem insert_calls (base : Nat) (P : Nat → Prop) (v : Value) (l : List Val) (i m vb : Nat) (news : List Cel) (w : World) (hO : OwnN w base P v l) (hi : i ≤ l.length) (hm : news.length = m) (h0 : 0 < m) (hlen : l.length + m ≤ 1000000) (hb : base ≤ w.heap.size)
    (hV : w.heap[vb]? = some (.cells (flat news).toArray 24 (0, 0))) (hg : Good w (fun k => P k ∧ some k ≠ v.ownBlock ∧ k < w.heap.size) news) (hPv : P vb) (hne : v.ownBlock ≠ some vb) :
    Calls Tryd.prog 91 #[v, .int .i64 (i : Int), .slice (some ⟨vb, 0, none⟩) m m] w fun e w' => ∃ v', e = .returned v' ∧ w.grownBy w' v.ownBlock ∧ OwnN w' base P v' (l.take i ++ (news.map (·.x) ++ l.drop i)) ∧ (v'.ownBlock = v.ownBlock ∨ v'.ownBlock = some w.heap.size) := by
  obtain ⟨rows, hrl, hrow, hgr⟩ := hO.rows
  have hrn : rows.length = l.length := by rw [← hrl, List.length_map]
  by_cases he : i = l.length
  · subst he
    have hvl : vb < w.heap.size := (Array.getElem?_eq_some_iff.1 hV).1
    have hS : Sl w (fun k => P k ∧ some k ≠ v.ownBlock ∧ k < w.heap.size) (news.map (·.x)) (some ⟨vb, 0, none⟩) m m := by
      have := Sl_of_block (c := m) hV hg ⟨hPv, fun h => hne h.symm, hvl⟩ (by simp only [big]; omega) (by omega)
      rwa [hm] at this
    refine (insert_end base l.length m v _ rows _ _ _ _ w (by rw [← hrn]; exact hrow) hrn hS rfl h0 hlen hb).mono ?_
    rintro e w1 ⟨v', rfl, hgb, ns, hns, hgn, hown, hat⟩
    refine ⟨v', rfl, hgb, ?_, hat⟩
    have hh : l.take l.length ++ (news.map (·.x) ++ l.drop l.length) = (rows ++ ns).map (·.x) := by simp [hrl, hns]
    rw [hh]
    have hmv : ∀ k, (P k ∧ some k ≠ v.ownBlock ∧ k < w.heap.size) → k < w.heap.size → (P k ∧ some k ≠ v'.ownBlock ∧ k < w1.heap.size) ∧ w1.heap[k]? = w.heap[k]? := by
      intro k hk hlt
      refine ⟨⟨hk.1, ?_, Nat.lt_of_lt_of_le hlt hgb.4⟩, hgb.block k hlt hk.2.1⟩
      rcases hat with hat | hat
      · rw [hat]; exact hk.2.1
      · rw [hat]; intro hq; injection hq with hq; omega
    exact OwnN.of_row hown ((hgr.move hmv).append (hgn.move hmv))
  · rcases hO with ⟨rfl, rfl⟩ | ⟨b, cap, rows, rfl, hbb, hOB, rfl⟩
    · simp at hi he; omega
    · have hle := hOB.le
      obtain ⟨tail, h1, h2, h3, h4, h5⟩ := hOB
      have hbv : vb ≠ b := by rintro rfl; exact hne rfl
      by_cases hroom : rows.length + m ≤ cap
      · refine (insert_shift b rows.length cap i m vb rows news tail w h1 h2 rfl hm h0 (by simp at hi he; omega) hroom h3 hV hbv).mono ?_
        rintro e w1 ⟨rfl, hgb, tail', hh, hl⟩
        refine ⟨_, rfl, hgb, .inr ⟨b, cap, rows.take i ++ (news ++ rows.drop i), ?_, hbb, ⟨tail', hh, hl, h3, ?_, fun h => h.2.1 rfl⟩, by simp⟩, .inl rfl⟩
        · simp; simp at hi; omega
        · have hmv : ∀ k, (P k ∧ k ≠ b ∧ k < w.heap.size) → k < w.heap.size → (P k ∧ k ≠ b ∧ k < w1.heap.size) ∧ w1.heap[k]? = w.heap[k]? := by
            intro k hk hlt
            exact ⟨⟨hk.1, hk.2.1, Nat.lt_of_lt_of_le hlt hgb.4⟩, hgb.block k hlt (by intro hq; injection hq with hq; exact hk.2.1 hq)⟩
          have hg' : Good w (fun k => P k ∧ k ≠ b ∧ k < w.heap.size) news := hg.mono (fun k hk hlt => ⟨hk.1, by rintro rfl; exact hk.2.1 rfl, hlt⟩)
          exact (((h4.sub (fun r hr => List.mem_of_mem_take hr)).append (hg'.append (h4.sub (fun r hr => List.mem_of_mem_drop hr)))).move hmv)
      · refine (insert_grow b rows.length cap i m vb rows news tail w h1 rfl hm h0 (by simp at hi he; omega) hle (by omega) (by simp at hlen; omega) hV).mono ?_
        rintro e w1 ⟨cap', rfl, hgb, hc1, hc2, tail', hh, hl⟩
        refine ⟨_, rfl, ?_, .inr ⟨w.heap.size, cap', rows.take i ++ (news ++ rows.drop i), ?_, hb, ⟨tail', hh, hl, hc2, ?_, fun h => h.2.1 rfl⟩, by simp⟩, .inr rfl⟩
        · exact ⟨hgb.1, hgb.2, hgb.3, hgb.4, fun k hk _ => hgb.block k hk (by intro hq; injection hq with hq; omega)⟩
        · simp; simp at hi; omega
        · have hmv : ∀ k, (P k ∧ k ≠ b ∧ k < w.heap.size) → k < w.heap.size → (P k ∧ k ≠ w.heap.size ∧ k < w1.heap.size) ∧ w1.heap[k]? = w.heap[k]? := by
            intro k hk hlt
            exact ⟨⟨hk.1, by omega, Nat.lt_of_lt_of_le hlt hgb.4⟩, hgb.block k hlt (by intro hq; injection hq with hq; omega)⟩
          have hg' : Good w (fun k => P k ∧ k ≠ b ∧ k < w.heap.size) news := hg.mono (fun k hk hlt => ⟨hk.1, by rintro rfl; exact hk.2.1 rfl, hlt⟩)
          exact (((h4.sub (fun r hr => List.mem_of_mem_take hr)).append (hg'.append (h4.sub (fun r hr => List.mem_of_mem_drop hr)))).move hmv)
end Go.Proofs.YtmbgaaoneaplmaaDoor
