/- Words for slices.Insert: copies into an array of the call's own. -/
import Derived.Test.YtmbgaaoneaplmaaDoorD1
import Derived.Shelf.Spec.SlicesInsert
import Derived.Lib.AppendZerosOnto
namespace Go.Proofs.YtmbgaaoneaplmaaDoor
open Go.RowKit

/-- copy of items into an array that is known whole. -/
theorem run_copy4 (W : World) (ty : TypeId) (g o dLen dCap : Nat) (a : Addr) (sLen sCap : Nat) (X Y : List Value) (cs : List Value)
    (hg : W.heap[g]? = some (.cells (X ++ Y).toArray 24 (0, 0))) (ho : o = X.length) (hn : cs.length = Nat.min sLen dLen * 4)
    (hsrc : ∀ j v, cs[j]? = some v → W.cell? (a.add j) = some v) (hfit : cs.length ≤ Y.length) (h1 : ∀ v ∈ cs, v.oneCell' = true) :
    (Builtin.copy_ #[22, 22] ty #[.slice (some ⟨g, o, none⟩) dLen dCap, .slice (some a) sLen sCap]).run Tryd.prog W =
      .ok (goInt (Nat.min sLen dLen)) (W.setRow g (X ++ (cs ++ Y.drop cs.length)).toArray) := by
  subst ho
  obtain ⟨i0, hi, hz0, hz1, hz2⟩ := info_parts24
  have hl := run_loadCells_list (P := Tryd.prog) W a cs hsrc
  have hst := run_storeCells_at Tryd.prog g X.length 24 cs 0 _ W hg (by simpa using hfit) h1
  have e : ((X ++ Y).toArray.toList.take (X.length + 0) ++ cs ++ (X ++ Y).toArray.toList.drop (X.length + 0 + cs.length)) = X ++ (cs ++ Y.drop cs.length) := by
    simp [List.drop_append]
  rw [e] at hst
  simp [Builtin.copy_, run_underlying Tryd.underlying22, Builtin.lenOf, Builtin.firstCells, sizeOf, typeInfo, hi, hz1, ← hn, hl, hst]

theorem flat_take (rows : List Cel) : ∀ i, flat (rows.take i) = (flat rows).take (i * 4) := by
  induction rows with
  | nil => intro i; simp [flat]
  | cons r rows ih =>
    intro i
    cases i with
    | zero => simp [flat]
    | succ i =>
      have hc : r.cells.length = 4 := rfl
      rw [List.take_succ_cons, flat_cons, flat_cons, ih, List.take_append, List.take_of_length_le (l := r.cells) (by rw [hc]; omega), hc, show (i + 1) * 4 - 4 = i * 4 by omega]
theorem flat_split (rows : List Cel) (i : Nat) : flat rows = flat (rows.take i) ++ flat (rows.drop i) := by
  rw [← flat_append, List.take_append_drop]

/-- What the call does to the heap: one block changes, or one is new. -/
theorem grownBy_setRow {w0 w : World} {g : Nat} {cs : Array Value} (h : w0.grownBy w (some g)) : w0.grownBy (w.setRow g cs) (some g) := by
  obtain ⟨h1, h2, h3, h4, h5⟩ := h
  refine ⟨h1, h2, h3, by simpa [World.setRow] using h4, fun k hk hne => ?_⟩
  rw [setRow_other w g k cs (by rintro rfl; exact hne rfl)]
  exact h5 k hk hne

theorem slice_at {W : World} {g : Nat} {l : List Value} {t : TypeId} (h : W.heap[g]? = some (.cells l.toArray t (0, 0))) : ∀ j, W.cell? ⟨g, j, none⟩ = l[j]? := by
  intro j
  simp [World.cell?, h]

end Go.Proofs.YtmbgaaoneaplmaaDoor
