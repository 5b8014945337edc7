/- Words: a slice of values that the call has made, by its cells. -/
import Derived.Test.YtmbgaaoneaplmaaDoorA1
import Derived.Deep.AppendLies
import Derived.Laws.CopyRow
namespace Go.Proofs.YtmbgaaoneaplmaaDoor
open Go.RowKit

/-- An item as it lies in an array: the value, where its items lie, their capacity. -/
structure Cel where
  x : Val
  A : Option Addr
  c : Nat
def Cel.cells (r : Cel) : List Value := [.int .i64 r.x.k, .int .i64 r.x.n, .string r.x.t, .slice r.A r.x.is.length r.c]
def flat (rows : List Cel) : List Value := rows.flatMap Cel.cells
theorem flat_nil : flat [] = [] := rfl
theorem flat_cons (r : Cel) (rows : List Cel) : flat (r :: rows) = r.cells ++ flat rows := by simp [flat]
theorem flat_append (a b : List Cel) : flat (a ++ b) = flat a ++ flat b := by simp [flat]
theorem flat_length (rows : List Cel) : (flat rows).length = rows.length * 4 := by
  induction rows with
  | nil => rfl
  | cons r rows ih => rw [flat_cons, List.length_append, ih]; simp [Cel.cells]; omega
theorem flat_one (rows : List Cel) : ∀ u ∈ flat rows, u.oneCell' = true := by
  intro u hu
  simp only [flat, List.mem_flatMap, Cel.cells] at hu
  obtain ⟨r, _, hu⟩ := hu
  simp only [List.mem_cons, List.not_mem_nil, or_false] at hu
  rcases hu with rfl | rfl | rfl | rfl <;> rfl
theorem flat_at {rows : List Cel} {i : Nat} {r : Cel} (h : rows[i]? = some r) : ∀ j, j < 4 → (flat rows)[i * 4 + j]? = r.cells[j]? := by
  induction rows generalizing i with
  | nil => simp at h
  | cons a rows ih =>
    intro j hj
    rw [flat_cons]
    cases i with
    | zero =>
      simp at h; subst h
      rw [List.getElem?_append_left (by simp [Cel.cells]; omega)]
      congr 1; omega
    | succ i =>
      rw [List.getElem?_append_right (by simp [Cel.cells]; omega)]
      have := ih (i := i) (by simpa using h) j hj
      rw [← this]
      congr 1
      simp [Cel.cells]; omega
theorem flat_set {rows : List Cel} {i : Nat} (h : i < rows.length) (r : Cel) : flat (rows.set i r) = (((((flat rows).set (i * 4) (.int .i64 r.x.k)).set (i * 4 + 1) (.int .i64 r.x.n)).set (i * 4 + 2) (.string r.x.t)).set (i * 4 + 3) (.slice r.A r.x.is.length r.c)) := by
  induction rows generalizing i with
  | nil => simp at h
  | cons a rows ih =>
    cases i with
    | zero => simp [flat_cons, Cel.cells]
    | succ i =>
      rw [List.set_cons_succ, flat_cons, flat_cons, ih (by simpa using h)]
      have hl : a.cells.length = 4 := rfl
      rw [List.set_append_right _ _ (by omega), List.set_append_right _ _ (by omega), List.set_append_right _ _ (by omega), List.set_append_right _ _ (by omega)]
      have e0 : (i + 1) * 4 - a.cells.length = i * 4 := by omega
      have e1 : (i + 1) * 4 + 1 - a.cells.length = i * 4 + 1 := by omega
      have e2 : (i + 1) * 4 + 2 - a.cells.length = i * 4 + 2 := by omega
      have e3 : (i + 1) * 4 + 3 - a.cells.length = i * 4 + 3 := by omega
      rw [e0, e1, e2, e3]
theorem set_app4 {α : Type} (l t : List α) (i : Nat) (a b c d : α) (h : i + 3 < l.length) : ((((l ++ t).set i a).set (i + 1) b).set (i + 2) c).set (i + 3) d = ((((l.set i a).set (i + 1) b).set (i + 2) c).set (i + 3) d) ++ t := by
  rw [List.set_append_left _ _ (by omega), List.set_append_left _ _ (by simp; omega), List.set_append_left _ _ (by simp; omega), List.set_append_left _ _ (by simp; omega)]

/-- What the items lead to lies there. -/
def Good (w : World) (ok : Nat → Prop) (rows : List Cel) : Prop := ∀ r ∈ rows, r.x.t.size ≤ big ∧ Sl w ok r.x.is r.A r.x.is.length r.c
theorem Good.move {w w' : World} {ok ok' : Nat → Prop} {rows : List Cel} (h : Good w ok rows) (hm : ∀ k, ok k → k < w.heap.size → ok' k ∧ w'.heap[k]? = w.heap[k]?) : Good w' ok' rows :=
  fun r hr => ⟨(h r hr).1, Sl_move hm (h r hr).2⟩
theorem Good.bl {w w' : World} {ok : Nat → Prop} {rows : List Cel} (h : Good w ok rows) (hb : Below w.heap.size w w') : Good w' ok rows := h.move (fun k hk hlt => ⟨hk, hb.block k hlt⟩)
theorem Good.mono {w : World} {ok ok' : Nat → Prop} {rows : List Cel} (h : Good w ok rows) (hk : ∀ k, ok k → k < w.heap.size → ok' k) : Good w ok' rows := h.move (fun k h1 h2 => ⟨hk k h1 h2, rfl⟩)
theorem Good.append {w : World} {ok : Nat → Prop} {a b : List Cel} (h : Good w ok a) (h' : Good w ok b) : Good w ok (a ++ b) := by
  intro r hr
  rcases List.mem_append.1 hr with hr | hr
  · exact h r hr
  · exact h' r hr
theorem Good.sub {w : World} {ok : Nat → Prop} {a b : List Cel} (h : Good w ok a) (hs : ∀ r ∈ b, r ∈ a) : Good w ok b := fun r hr => h r (hs r hr)

/-- A slice that is read, as items that lie in an array. -/
theorem Sl_rows {w : World} {ok : Nat → Prop} : ∀ {l : List Val} {b o : Nat} (_ : RepL w ok l (some ⟨b, o, none⟩)), ∃ rows : List Cel, rows.map (·.x) = l ∧ Good w ok rows ∧ ∀ j u, (flat rows)[j]? = some u → w.cell? ⟨b, o + j, none⟩ = some u := by
  intro l
  induction l with
  | nil => intro b o _; exact ⟨[], rfl, fun r hr => (by cases hr), fun j u h => by simp [flat_nil] at h⟩
  | cons y r ih =>
    intro b o h
    simp only [RepL] at h
    obtain ⟨b', o', he, _, ⟨cs, hc, hR⟩, ht⟩ := h
    injection he with he
    injection he with he1 he2
    subst he1; subst he2
    rw [Rep_def] at hR
    obtain ⟨A', c', rfl, hsz, hS⟩ := hR
    obtain ⟨rows, hm, hg, hcell⟩ := ih ht
    refine ⟨⟨y, A', c'⟩ :: rows, by simp [hm], ?_, ?_⟩
    · intro r hr
      cases hr with
      | head => exact ⟨hsz, hS⟩
      | tail _ hr => exact hg r hr
    · intro j u hu
      rw [flat_cons] at hu
      rcases Nat.lt_or_ge j 4 with hj | hj
      · rw [List.getElem?_append_left (by simp [Cel.cells]; omega)] at hu
        exact hc j u hu
      · rw [List.getElem?_append_right (by simp [Cel.cells]; omega)] at hu
        have := hcell (j - 4) u (by simpa [Cel.cells] using hu)
        rwa [show o + 4 + (j - 4) = o + j by omega] at this

/-- Block b is an array of capacity cap that the call has made; its first items are rows; what these lead to is elsewhere. -/
def OwnB (w : World) (ok : Nat → Prop) (b cap : Nat) (rows : List Cel) : Prop :=
  ∃ tail, w.heap[b]? = some (.cells (flat rows ++ tail).toArray 24 (0, 0)) ∧ (flat rows).length + tail.length = cap * 4 ∧ cap ≤ 9223372036854775807 ∧ Good w ok rows ∧ ¬ ok b
theorem OwnB.le {w : World} {ok : Nat → Prop} {b cap : Nat} {rows : List Cel} (h : OwnB w ok b cap rows) : rows.length ≤ cap := by
  obtain ⟨tail, _, h2, _⟩ := h
  rw [flat_length] at h2; omega
theorem OwnB.lt {w : World} {ok : Nat → Prop} {b cap : Nat} {rows : List Cel} (h : OwnB w ok b cap rows) : b < w.heap.size := by
  obtain ⟨tail, h1, _⟩ := h
  exact (Array.getElem?_eq_some_iff.1 h1).1
theorem OwnB.move {w w' : World} {ok ok' : Nat → Prop} {b cap : Nat} {rows : List Cel} (h : OwnB w ok b cap rows) (hb : w'.heap[b]? = w.heap[b]?) (hnb : ¬ ok' b) (hm : ∀ k, ok k → k < w.heap.size → ok' k ∧ w'.heap[k]? = w.heap[k]?) : OwnB w' ok' b cap rows := by
  obtain ⟨tail, h1, h2, h3, h4, _⟩ := h
  exact ⟨tail, hb.trans h1, h2, h3, h4.move hm, hnb⟩
theorem OwnB.later {w w' : World} {ok : Nat → Prop} {b cap : Nat} {rows : List Cel} (h : OwnB w ok b cap rows) (hb : Below w.heap.size w w') : OwnB w' ok b cap rows :=
  h.move (hb.block b h.lt) (by obtain ⟨_, _, _, _, _, h5⟩ := h; exact h5) (fun k hk hlt => ⟨hk, hb.block k hlt⟩)
theorem OwnB.cells {w : World} {ok : Nat → Prop} {b cap : Nat} {rows : List Cel} (h : OwnB w ok b cap rows) : ∀ j u, (flat rows)[j]? = some u → w.cell? ⟨b, j, none⟩ = some u ∧ w.frozen? ⟨b, j, none⟩ = false := by
  obtain ⟨tail, h1, _⟩ := h
  intro j u hu
  have hj := (List.getElem?_eq_some_iff.1 hu).1
  constructor
  · simp only [World.cell?, h1, Option.isSome_none, Bool.false_eq_true, if_false]
    rw [List.getElem?_toArray, List.getElem?_append_left hj]; exact hu
  · simp [World.frozen?, h1]
theorem OwnB.vao {w : World} {ok : Nat → Prop} {b cap : Nat} {rows : List Cel} (h : OwnB w ok b cap rows) {i : Nat} {r : Cel} (hr : rows[i]? = some r) : VAO w b (i * 4) r.x.k r.x.n r.x.t r.A r.x.is.length r.c := by
  have hc := fun j hj u hu => h.cells (i * 4 + j) u ((flat_at hr j hj).trans hu)
  exact ⟨⟨(hc 0 (by omega) _ rfl).1, (hc 1 (by omega) _ rfl).1, (hc 2 (by omega) _ rfl).1, (hc 3 (by omega) _ rfl).1⟩, (hc 0 (by omega) _ rfl).2, (hc 1 (by omega) _ rfl).2, (hc 2 (by omega) _ rfl).2, (hc 3 (by omega) _ rfl).2⟩
theorem OwnB.sl {w : World} {ok ok' : Nat → Prop} {b cap : Nat} {rows : List Cel} (h : OwnB w ok b cap rows) (hn : rows.length ≤ big) (hk : ∀ k, ok k → ok' k) (hb : ok' b) : Sl w ok' (rows.map (·.x)) (some ⟨b, 0, none⟩) rows.length cap := by
  refine ⟨by simp, h.le, hn, RepL_of_get hb (fun i x hx => ?_)⟩
  rw [List.getElem?_map] at hx
  obtain ⟨r, hr, rfl⟩ := Option.map_eq_some_iff.1 hx
  obtain ⟨⟨z0, z1, z2, z3⟩, _⟩ := h.vao hr
  obtain ⟨_, _, _, _, hg, _⟩ := h
  have := hg r (List.mem_of_getElem? hr)
  simp only [Nat.zero_add]
  exact ⟨r.A, r.c, z0, z1, z2, z3, this.1, Sl_mono this.2 (fun k hk' _ => hk k hk')⟩
theorem heap_setCell_at {w : World} {b : Nat} {c : Array Value} {t : TypeId} {f : Nat × Nat} (h : w.heap[b]? = some (.cells c t f)) (o : Nat) (v : Value) : (w.setCell ⟨b, o, none⟩ v).heap[b]? = some (.cells (c.setIfInBounds o v) t f) := by
  have hlt := (Array.getElem?_eq_some_iff.1 h).1
  have he := (Array.getElem?_eq_some_iff.1 h).2
  simp only [World.setCell]
  rw [Array.getElem?_modify, if_pos rfl, h]
  simp
theorem set4O_heap {w : World} {b o : Nat} {l : List Value} {e : TypeId} {f : Nat × Nat} (h : w.heap[b]? = some (.cells l.toArray e f)) (k n : Int) (t : ByteArray) (A : Option Addr) (m c : Nat) :
    (set4O w b o k n t A m c).heap[b]? = some (.cells ((((l.set o (.int .i64 k)).set (o + 1) (.int .i64 n)).set (o + 2) (.string t)).set (o + 3) (.slice A m c)).toArray e f) := by
  unfold set4O
  have h1 := heap_setCell_at h o (.int .i64 k)
  rw [List.setIfInBounds_toArray] at h1
  have h2 := heap_setCell_at h1 (o + 1) (.int .i64 n)
  rw [List.setIfInBounds_toArray] at h2
  have h3 := heap_setCell_at h2 (o + 2) (.string t)
  rw [List.setIfInBounds_toArray] at h3
  have h4 := heap_setCell_at h3 (o + 3) (.slice A m c)
  rw [List.setIfInBounds_toArray] at h4
  exact h4
theorem OwnB.set {w : World} {ok : Nat → Prop} {b cap : Nat} {rows : List Cel} (h : OwnB w ok b cap rows) {i : Nat} (hi : i < rows.length) {y : Val} {A : Option Addr} {c : Nat} (ht : y.t.size ≤ big) (hs : Sl w ok y.is A y.is.length c) :
    OwnB (set4O w b (i * 4) y.k y.n y.t A y.is.length c) ok b cap (rows.set i ⟨y, A, c⟩) := by
  have hnb : ¬ ok b := by obtain ⟨_, _, _, _, _, h5⟩ := h; exact h5
  have hmv : ∀ k, ok k → k < w.heap.size → ok k ∧ (set4O w b (i * 4) y.k y.n y.t A y.is.length c).heap[k]? = w.heap[k]? := fun k hk _ => ⟨hk, set4O_block k (by rintro rfl; exact hnb hk)⟩
  obtain ⟨tail, h1, h2, h3, h4, _⟩ := h
  have hh := set4O_heap (o := i * 4) h1 y.k y.n y.t A y.is.length c
  rw [set_app4 _ _ _ _ _ _ _ (by rw [flat_length]; omega)] at hh
  have hf := flat_set hi ⟨y, A, c⟩
  simp only at hf
  rw [← hf] at hh
  refine ⟨tail, hh, ?_, h3, ?_, hnb⟩
  · rw [flat_length] at h2 ⊢; simpa using h2
  · intro r hr
    rcases List.mem_or_eq_of_mem_set hr with hr | rfl
    · exact ⟨(h4 r hr).1, Sl_move hmv (h4 r hr).2⟩
    · exact ⟨ht, Sl_move hmv hs⟩
theorem OwnB.row {w : World} {ok : Nat → Prop} {b cap : Nat} {rows : List Cel} (h : OwnB w ok b cap rows) {base : Nat} (hb : base ≤ b) : w.ownsRow base 24 4 (.slice (some ⟨b, 0, none⟩) rows.length cap) rows.length (flat rows) := by
  have hle := h.le
  obtain ⟨tail, h1, h2, h3, _⟩ := h
  refine ⟨flat_length rows, .inr ⟨b, cap, _, rfl, hb, h1, hle, by simpa [maxLen] using h3, by simpa using h2, ?_⟩⟩
  rw [← flat_length rows]
  simp

/-- A slice of the call's own, nil or not. -/
def OwnS (w : World) (base : Nat) (ok : Nat → Prop) (v : Value) (l : List Val) : Prop :=
  (v = .slice none 0 0 ∧ l = []) ∨ ∃ b cap rows, v = .slice (some ⟨b, 0, none⟩) rows.length cap ∧ base ≤ b ∧ OwnB w ok b cap rows ∧ rows.map (·.x) = l
theorem OwnS.of_row {w : World} {base n : Nat} {ok : Nat → Prop} {v : Value} {rows : List Cel} (h : w.ownsRow base 24 4 v n (flat rows)) (hg : Good w ok rows) (hok : ∀ k, base ≤ k → ¬ ok k) : OwnS w base ok v (rows.map (·.x)) := by
  have hl := h.1
  rw [flat_length] at hl
  have hn : n = rows.length := by omega
  subst hn
  rcases h.2 with ⟨rfl, h0⟩ | ⟨g, cap, cur, rfl, hb, hh, hle, hcap, hsz, htk⟩
  · exact .inl ⟨rfl, by rw [List.eq_nil_of_length_eq_zero h0]; rfl⟩
  · refine .inr ⟨g, cap, rows, rfl, hb, ⟨cur.toList.drop (rows.length * 4), ?_, ?_, by simpa [maxLen] using hcap, hg, hok g hb⟩, rfl⟩
    · rw [hh, ← htk, List.take_append_drop]
    · have hsz' : cur.toList.length = cap * 4 := by rw [Array.length_toList, hsz]
      rw [flat_length, List.length_drop, hsz']
      omega

end Go.Proofs.YtmbgaaoneaplmaaDoor
