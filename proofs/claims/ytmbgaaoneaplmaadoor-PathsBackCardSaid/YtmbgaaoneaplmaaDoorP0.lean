/- Plain words on values: equality in all fields, the order of values. -/
import Derived.Test.YtmbgaaoneaplmaaDoorA0
import Derived.Lib.Bytealg
import Derived.Lib.Small
namespace Go.Proofs.YtmbgaaoneaplmaaDoor
open Go.RowKit

mutual
/-- Equal in all fields. -/
def veq : Val → Val → Bool
  | ⟨k, n, t, is⟩, y => decide (k = y.k) && (decide (n = y.n) && (decide (t.toList = y.t.toList) && veqL is y.is))
def veqL : List Val → List Val → Bool
  | [], [] => true
  | x :: r, y :: s => veq x y && veqL r s
  | _, _ => false
end
theorem veqL_false {l s : List Val} {i : Nat} {x y : Val} (hx : l[i]? = some x) (hy : s[i]? = some y) (h : veq x y = false) : veqL l s = false := by
  induction l generalizing s i with
  | nil => simp at hx
  | cons a l ih =>
    cases s with
    | nil => simp at hy
    | cons b s =>
      cases i with
      | zero =>
        simp at hx hy; subst hx; subst hy; simp [veqL, h]
      | succ i =>
        simp at hx hy; simp [veqL, ih hx hy]
theorem veqL_len {l s : List Val} (h : l.length ≠ s.length) : veqL l s = false := by
  induction l generalizing s with
  | nil => cases s with | nil => exact absurd rfl h | cons b s => rfl
  | cons a l ih =>
    cases s with
    | nil => rfl
    | cons b s => simp only [veqL]; rw [ih (by simpa using h)]; simp
theorem veqL_true {l s : List Val} (hl : l.length = s.length) (h : ∀ (i : Nat) x y, l[i]? = some x → s[i]? = some y → veq x y = true) : veqL l s = true := by
  induction l generalizing s with
  | nil => cases s with | nil => rfl | cons b s => simp at hl
  | cons a l ih =>
    cases s with
    | nil => simp at hl
    | cons b s =>
      simp only [veqL, h 0 a b rfl rfl, Bool.true_and]
      exact ih (by simpa using hl) (fun i x y hx hy => h (i + 1) x y (by simpa using hx) (by simpa using hy))

/-- Texts are compared byte by byte. -/
def scmp (a b : ByteArray) : Int := Lib.compareBytes a.data.toList b.data.toList

mutual
/-- Below 0, 0, above 0: as a value stands ahead of another one, is it, or stands behind it. -/
def vcmp : Val → Val → Int
  | ⟨k, n, t, is⟩, y =>
    if k ≠ y.k then Lib.compareInt k y.k
    else if k = 1 ∨ k = 2 then Lib.compareInt n y.n
    else if k = 3 then scmp t y.t
    else if k = 4 ∨ k = 5 ∨ k = 6 then lcmp is y.is
    else 0
def lcmp : List Val → List Val → Int
  | [], [] => 0
  | [], _ :: _ => -1
  | _ :: _, [] => 1
  | x :: r, y :: s => if vcmp x y ≠ 0 then vcmp x y else lcmp r s
end
theorem vcmp_def (x y : Val) : vcmp x y = if x.k ≠ y.k then Lib.compareInt x.k y.k else if x.k = 1 ∨ x.k = 2 then Lib.compareInt x.n y.n else if x.k = 3 then scmp x.t y.t else if x.k = 4 ∨ x.k = 5 ∨ x.k = 6 then lcmp x.is y.is else 0 := by
  cases x; simp only [vcmp]

/-- Where the first items are alike. -/
theorem lcmp_drop {l s : List Val} : ∀ (i : Nat), i ≤ l.length → i ≤ s.length → (∀ j, j < i → ∀ a b, l[j]? = some a → s[j]? = some b → vcmp a b = 0) → lcmp l s = lcmp (l.drop i) (s.drop i) := by
  induction l generalizing s with
  | nil => intro i hi _ _; simp at hi; subst hi; rfl
  | cons a l ih =>
    intro i hi hs h
    cases i with
    | zero => rfl
    | succ i =>
      cases s with
      | nil => simp at hs
      | cons b s =>
        have h0 := h 0 (by omega) a b rfl rfl
        rw [List.drop_succ_cons, List.drop_succ_cons, ← ih i (by simpa using hi) (by simpa using hs) (fun j hj x y hx hy => h (j + 1) (by omega) x y (by simpa using hx) (by simpa using hy))]
        simp [lcmp, h0]
theorem lcmp_at {l s : List Val} {i : Nat} {x y : Val} (hx : l[i]? = some x) (hy : s[i]? = some y) (h : ∀ j, j < i → ∀ a b, l[j]? = some a → s[j]? = some b → vcmp a b = 0) (hne : vcmp x y ≠ 0) : lcmp l s = vcmp x y := by
  obtain ⟨h1, e1⟩ := List.getElem?_eq_some_iff.1 hx
  obtain ⟨h2, e2⟩ := List.getElem?_eq_some_iff.1 hy
  rw [lcmp_drop i (by omega) (by omega) h, List.drop_eq_getElem_cons h1, List.drop_eq_getElem_cons h2, e1, e2]
  simp [lcmp, hne]
theorem lcmp_end {l s : List Val} {i : Nat} (hi : i ≤ l.length) (hs : i ≤ s.length) (h : ∀ j, j < i → ∀ a b, l[j]? = some a → s[j]? = some b → vcmp a b = 0) (he : l.length = i ∨ s.length = i) : lcmp l s = if l.length < s.length then -1 else if s.length < l.length then 1 else 0 := by
  rw [lcmp_drop i hi hs h]
  by_cases h1 : l.length = i
  · rw [List.drop_eq_nil_of_le (by omega : l.length ≤ i)]
    by_cases h2 : s.length = i
    · rw [List.drop_eq_nil_of_le (by omega : s.length ≤ i), if_neg (by omega), if_neg (by omega)]; rfl
    · rw [List.drop_eq_getElem_cons (show i < s.length by omega), if_pos (by omega)]; rfl
  · rw [List.drop_eq_nil_of_le (by omega : s.length ≤ i), List.drop_eq_getElem_cons (show i < l.length by omega), if_neg (by omega), if_pos (by omega)]; rfl

end Go.Proofs.YtmbgaaoneaplmaaDoor
