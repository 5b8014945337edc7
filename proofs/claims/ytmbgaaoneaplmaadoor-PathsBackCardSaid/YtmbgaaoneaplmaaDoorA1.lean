/- Words: an array of values that the call has made and fills. -/
import Derived.Test.YtmbgaaoneaplmaaDoorA0
namespace Go.Proofs.YtmbgaaoneaplmaaDoor
open Go.RowKit

/-- Four cells that may be written: what they hold. -/
def VAO (w : World) (b o : Nat) (k n : Int) (t : ByteArray) (A : Option Addr) (m c : Nat) : Prop :=
  (w.cell? ⟨b, o, none⟩ = some (.int .i64 k) ∧ w.cell? ⟨b, o + 1, none⟩ = some (.int .i64 n) ∧ w.cell? ⟨b, o + 2, none⟩ = some (.string t) ∧ w.cell? ⟨b, o + 3, none⟩ = some (.slice A m c)) ∧
  w.frozen? ⟨b, o, none⟩ = false ∧ w.frozen? ⟨b, o + 1, none⟩ = false ∧ w.frozen? ⟨b, o + 2, none⟩ = false ∧ w.frozen? ⟨b, o + 3, none⟩ = false
theorem VAO.move {w w' : World} {b o : Nat} {k n : Int} {t : ByteArray} {A : Option Addr} {m c : Nat} (h : VAO w b o k n t A m c) (he : w'.heap[b]? = w.heap[b]?) : VAO w' b o k n t A m c := by
  obtain ⟨⟨z0, z1, z2, z3⟩, f0, f1, f2, f3⟩ := h
  refine ⟨⟨?_, ?_, ?_, ?_⟩, ?_, ?_, ?_, ?_⟩ <;> (simp only [World.cell?, World.frozen?] at *; rw [he]; assumption)
theorem VAO.lt {w : World} {b o : Nat} {k n : Int} {t : ByteArray} {A : Option Addr} {m c : Nat} (h : VAO w b o k n t A m c) : b < w.heap.size := World.block_lt_of_cell? w ⟨b, o, none⟩ h.1.1
theorem VAO.later {w w' : World} {b o : Nat} {k n : Int} {t : ByteArray} {A : Option Addr} {m c : Nat} (h : VAO w b o k n t A m c) (hb : Below w.heap.size w w') : VAO w' b o k n t A m c :=
  h.move (hb.block b h.lt)
/-- A value stored there. -/
def set4O (w : World) (b o : Nat) (k n : Int) (t : ByteArray) (A : Option Addr) (m c : Nat) : World :=
  (((w.setCell ⟨b, o, none⟩ (.int .i64 k)).setCell ⟨b, o + 1, none⟩ (.int .i64 n)).setCell ⟨b, o + 2, none⟩ (.string t)).setCell ⟨b, o + 3, none⟩ (.slice A m c)
theorem set4O_block {w : World} {b o : Nat} {k n : Int} {t : ByteArray} {A : Option Addr} {m c : Nat} (i : Nat) (h : i ≠ b) : (set4O w b o k n t A m c).heap[i]? = w.heap[i]? := by
  unfold set4O
  rw [Below.heap_setCell _ _ _ _ h, Below.heap_setCell _ _ _ _ h, Below.heap_setCell _ _ _ _ h, Below.heap_setCell _ _ _ _ h]
theorem set4O_below {w0 w : World} {B b o : Nat} {k n : Int} {t : ByteArray} {A : Option Addr} {m c : Nat} (h : Below B w0 w) (hb : B ≤ b) : Below B w0 (set4O w b o k n t A m c) :=
  (((h.setCell (p := ⟨b, o, none⟩) hb _).setCell (p := ⟨b, o + 1, none⟩) hb _).setCell (p := ⟨b, o + 2, none⟩) hb _).setCell (p := ⟨b, o + 3, none⟩) hb _
theorem set4O_size {w : World} {b o : Nat} {k n : Int} {t : ByteArray} {A : Option Addr} {m c : Nat} : (set4O w b o k n t A m c).heap.size = w.heap.size := by simp [set4O]
theorem set4O_var {w : World} {b o : Nat} {k n k' n' : Int} {t t' : ByteArray} {A A' : Option Addr} {m c m' c' : Nat} (h : VAO w b o k' n' t' A' m' c') : VAO (set4O w b o k n t A m c) b o k n t A m c := by
  obtain ⟨⟨z0, z1, z2, z3⟩, f0, f1, f2, f3⟩ := h
  unfold set4O
  refine ⟨⟨?_, ?_, ?_, ?_⟩, ?_, ?_, ?_, ?_⟩
  · simp [go_sem, z0]
  · simp [go_sem, z1]
  · simp [go_sem, z2]
  · simp [go_sem, z3]
  · simpa using f0
  · simpa using f1
  · simpa using f2
  · simpa using f3
theorem cell_set4O {w : World} {b o : Nat} {k n : Int} {t : ByteArray} {A : Option Addr} {m c : Nat} {b' o' : Nat} (h : b' ≠ b ∨ o' < o ∨ o + 4 ≤ o') : (set4O w b o k n t A m c).cell? ⟨b', o', none⟩ = w.cell? ⟨b', o', none⟩ := by
  unfold set4O
  have hne : ∀ j, j < 4 → (⟨b, o + j, none⟩ : Addr) ≠ ⟨b', o', none⟩ := by
    intro j hj he
    injection he with h1 h2
    omega
  rw [World.cell?_setCell_other _ _ _ _ (hne 3 (by omega)), World.cell?_setCell_other _ _ _ _ (hne 2 (by omega)), World.cell?_setCell_other _ _ _ _ (hne 1 (by omega)), World.cell?_setCell_other _ _ _ _ (show (⟨b, o, none⟩ : Addr) ≠ _ from hne 0 (by omega))]
theorem frozen_set4O {w : World} {b o : Nat} {k n : Int} {t : ByteArray} {A : Option Addr} {m c : Nat} (p : Addr) : (set4O w b o k n t A m c).frozen? p = w.frozen? p := by simp [set4O]
theorem VAO.other {w : World} {b o b' o' : Nat} {k n k' n' : Int} {t t' : ByteArray} {A A' : Option Addr} {m c m' c' : Nat} (h : VAO w b' o' k' n' t' A' m' c') (hne : b' ≠ b ∨ o' + 4 ≤ o ∨ o + 4 ≤ o') : VAO (set4O w b o k n t A m c) b' o' k' n' t' A' m' c' := by
  obtain ⟨⟨z0, z1, z2, z3⟩, f0, f1, f2, f3⟩ := h
  refine ⟨⟨?_, ?_, ?_, ?_⟩, ?_, ?_, ?_, ?_⟩
  · rw [cell_set4O (by omega)]; exact z0
  · rw [cell_set4O (by omega)]; exact z1
  · rw [cell_set4O (by omega)]; exact z2
  · rw [cell_set4O (by omega)]; exact z3
  all_goals (rw [frozen_set4O]; assumption)

/-- An array of m places; the first of them hold l. -/
def Arr (w : World) (ok : Nat → Prop) (b m : Nat) (l : List Val) : Prop :=
  ∀ i, i < m → ∃ (x : Val) (A : Option Addr) (c : Nat), VAO w b (i * 4) x.k x.n x.t A x.is.length c ∧ (i < l.length → l[i]? = some x ∧ x.t.size ≤ big ∧ Sl w ok x.is A x.is.length c)
theorem Arr.later {w w' : World} {ok : Nat → Prop} {b m : Nat} {l : List Val} (h : Arr w ok b m l) (hb : Below w.heap.size w w') : Arr w' ok b m l := by
  intro i hi
  obtain ⟨x, A, c, hv, hl⟩ := h i hi
  exact ⟨x, A, c, hv.later hb, fun hlt => ⟨(hl hlt).1, (hl hlt).2.1, Sl_bl (hl hlt).2.2 hb⟩⟩
theorem Arr.push {w : World} {ok : Nat → Prop} {b m : Nat} {l : List Val} (h : Arr w ok b m l) (hb : ¬ ok b) {y : Val} {A : Option Addr} {c : Nat} (_hlt : l.length < m) (ht : y.t.size ≤ big) (hs : Sl w ok y.is A y.is.length c) :
    Arr (set4O w b (l.length * 4) y.k y.n y.t A y.is.length c) ok b m (l ++ [y]) := by
  intro i hi
  have hmove : ∀ {l' : List Val} {A' : Option Addr} {n' c' : Nat}, Sl w ok l' A' n' c' → Sl (set4O w b (l.length * 4) y.k y.n y.t A y.is.length c) ok l' A' n' c' :=
    fun hs' => Sl_move (fun k hk _ => ⟨hk, set4O_block k (by rintro rfl; exact hb hk)⟩) hs'
  by_cases he : i = l.length
  · subst he
    obtain ⟨x, A', c', hv, _⟩ := h _ hi
    exact ⟨y, A, c, set4O_var hv, fun _ => ⟨by simp, ht, hmove hs⟩⟩
  · obtain ⟨x, A', c', hv, hl⟩ := h i hi
    refine ⟨x, A', c', hv.other (by omega), fun hlt' => ?_⟩
    have hl' := hl (by simp at hlt'; omega)
    exact ⟨by rw [List.getElem?_append_left (by simp at hlt'; omega)]; exact hl'.1, hl'.2.1, hmove hl'.2.2⟩
theorem Arr.done {w : World} {ok ok' : Nat → Prop} {b m c : Nat} {l : List Val} (h : Arr w ok b m l) (hl : l.length = m) (hc : m ≤ c) (hm : m ≤ big) (hk : ∀ k, ok k → ok' k) (hb : ok' b) : Sl w ok' l (some ⟨b, 0, none⟩) m c := by
  refine ⟨hl, hc, hm, RepL_of_get hb (fun i x hx => ?_)⟩
  have hi := (List.getElem?_eq_some_iff.1 hx).1
  obtain ⟨x', A', c', ⟨⟨z0, z1, z2, z3⟩, _⟩, hl'⟩ := h i (by omega)
  obtain ⟨h1, h2, h3⟩ := hl' hi
  rw [hx] at h1
  injection h1 with h1
  subst h1
  simp only [Nat.zero_add]
  exact ⟨A', c', z0, z1, z2, z3, h2, Sl_mono h3 (fun k hk' _ => hk k hk')⟩

/-- So many values of nothing. -/
def zrows (m : Nat) : Array Value := madeCells #[.int .i64 0, .int .i64 0, .string ⟨#[]⟩, .slice none 0 0] (m * 4)
theorem zrows_size (m : Nat) : (zrows m).size = m * 4 := size_madeCells _ _
theorem zrows_at (m i j : Nat) (hi : i < m) (hj : j < 4) : (zrows m)[i * 4 + j]? = (#[Value.int .i64 0, .int .i64 0, .string ⟨#[]⟩, .slice none 0 0] : Array Value)[j]? := by
  have hlt : i * 4 + j < m * 4 := by omega
  unfold zrows madeCells
  rw [Array.getElem?_map, Array.getElem?_range, if_pos hlt]
  simp only [Option.map_some]
  rw [show (i * 4 + j) % (#[Value.int .i64 0, .int .i64 0, .string ⟨#[]⟩, .slice none 0 0] : Array Value).size = j from by simp; omega]
  match j, hj with
  | 0, _ => rfl
  | 1, _ => rfl
  | 2, _ => rfl
  | 3, _ => rfl
theorem VAO_zrows (w : World) (m i : Nat) (hi : i < m) : VAO (w.alloc (.cells (zrows m) 24)) w.heap.size (i * 4) 0 0 ⟨#[]⟩ none 0 0 := by
  have hc : ∀ j, (w.alloc (.cells (zrows m) 24)).cell? ⟨w.heap.size, j, none⟩ = (zrows m)[j]? := fun j => World.cell?_alloc_new w _ _ j
  refine ⟨⟨?_, ?_, ?_, ?_⟩, ?_, ?_, ?_, ?_⟩
  · rw [hc]; exact zrows_at m i 0 hi (by omega)
  · rw [hc]; exact zrows_at m i 1 hi (by omega)
  · rw [hc]; exact zrows_at m i 2 hi (by omega)
  · rw [hc]; exact zrows_at m i 3 hi (by omega)
  all_goals simp
theorem Arr.new (w : World) (ok : Nat → Prop) (m : Nat) : Arr (w.alloc (.cells (zrows m) 24)) ok w.heap.size m [] :=
  fun i hi => ⟨vz, none, 0, VAO_zrows w m i hi, fun h => by simp at h⟩
theorem info24 : (Tryd.prog.info? 24).map (fun i => (i.zero, i.size, i.bytes)) = some (some (.agg #[.int .i64 0, .int .i64 0, .string ⟨#[]⟩, .slice none 0 0]), 4, 56) := by kernel_rfl
/-- make([]Value, m). -/
theorem run_make24 (m : Nat) (hm : m ≤ 100000) : ∀ W : World, (Instr.makeSlice 22 (.int .i64 (m : Int)) (.int .i64 (m : Int))).run Tryd.prog W = .ok (.slice (some ⟨W.heap.size, 0, none⟩) m m) (W.alloc (.cells (zrows m) 24)) := by
  intro W
  obtain ⟨i0, hi, hzz⟩ := Option.map_eq_some_iff.1 info24
  simp only [Prod.mk.injEq] at hzz
  obtain ⟨hz0, hz1, hz2⟩ := hzz
  have := run_make (P := Tryd.prog) W 22 24 i0 _ Tryd.underlying22 hi hz0 .i64 .i64 (m : Int) (m : Int) (by omega) (by omega) (by rw [hz2]; omega) (by omega)
  rw [hz1] at this
  simpa [Value.cells, zrows] using this

end Go.Proofs.YtmbgaaoneaplmaaDoor
