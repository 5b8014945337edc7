/- Words on values in memory: a value as a tree, and what it is for a world to hold it. -/
import Derived.Test.YtmbgaaoneaplmaaDoorProg
import Derived.WalkKit
import Derived.WalkSpells
import Derived.WalkLawsBesides
import Derived.Lib.Hide
import Derived.Deep.RegionHeld3
import Derived.BigQuiet
import Derived.StillTailTactics
namespace Go.Proofs.YtmbgaaoneaplmaaDoor
open Go.RowKit

/-- A value as a tree. -/
structure Val where
  k : Int
  n : Int
  t : ByteArray
  is : List Val

/-- An induction over values: what holds of a value whose items it holds of, holds of each. -/
theorem Val.ind {p : Val → Prop} (h : ∀ x : Val, (∀ y ∈ x.is, p y) → p x) : ∀ x, p x := by
  intro x
  refine Val.rec (motive_1 := p) (motive_2 := fun l => ∀ y ∈ l, p y) ?_ ?_ ?_ x
  · intro k n t is ih; exact h ⟨k, n, t, is⟩ ih
  · intro y hy; cases hy
  · intro a l ha hl y hy
    cases hy with
    | head => exact ha
    | tail _ h' => exact hl y h'

/-- The greatest length. -/
def big : Nat := 140737488355328

mutual
/-- The four cells of a value. -/
def Rep (w : World) (ok : Nat → Prop) : Val → List Value → Prop
  | ⟨k, n, t, is⟩, cs => ∃ A c, cs = [.int .i64 k, .int .i64 n, .string t, .slice A is.length c] ∧ t.size ≤ big ∧ is.length ≤ c ∧ is.length ≤ big ∧ RepL w ok is A
/-- Values one behind the other, from an address on. -/
def RepL (w : World) (ok : Nat → Prop) : List Val → Option Addr → Prop
  | [], _ => True
  | x :: r, A => ∃ b o, A = some ⟨b, o, none⟩ ∧ ok b ∧ (∃ cs, (∀ j v, cs[j]? = some v → w.cell? ⟨b, o + j, none⟩ = some v) ∧ Rep w ok x cs) ∧ RepL w ok r (some ⟨b, o + 4, none⟩)
end

/-- A slice of values. -/
def Sl (w : World) (ok : Nat → Prop) (l : List Val) (A : Option Addr) (n c : Nat) : Prop := l.length = n ∧ n ≤ c ∧ n ≤ big ∧ RepL w ok l A
theorem Sl.le {w : World} {ok : Nat → Prop} {l : List Val} {A : Option Addr} {n c : Nat} (h : Sl w ok l A n c) : n ≤ 140737488355328 := h.2.2.1

theorem Rep_def {w : World} {ok : Nat → Prop} {x : Val} {cs : List Value} : Rep w ok x cs ↔ ∃ A c, cs = [.int .i64 x.k, .int .i64 x.n, .string x.t, .slice A x.is.length c] ∧ x.t.size ≤ big ∧ Sl w ok x.is A x.is.length c := by
  cases x; simp only [Rep, Sl, true_and]

/-- Worlds that agree on what is ok. -/
def Agree (ok : Nat → Prop) (w w' : World) : Prop := ∀ k, ok k → k < w.heap.size → w'.heap[k]? = w.heap[k]?

theorem Agree.cell {ok : Nat → Prop} {w w' : World} (h : Agree ok w w') {b o : Nat} {v : Value} (hb : ok b) (hc : w.cell? ⟨b, o, none⟩ = some v) : w'.cell? ⟨b, o, none⟩ = some v := by
  have hlt : b < w.heap.size := World.block_lt_of_cell? w ⟨b, o, none⟩ hc
  have := h b hb hlt
  simp only [World.cell?] at hc ⊢
  rw [this]; exact hc

/-- Two worlds, two sets of blocks: what the one holds the other holds. -/
theorem RepL_move {w w' : World} {ok ok' : Nat → Prop} (h : ∀ k, ok k → k < w.heap.size → ok' k ∧ w'.heap[k]? = w.heap[k]?) : ∀ (l : List Val) (A : Option Addr), RepL w ok l A → RepL w' ok' l A := by
  have hstep : ∀ (l : List Val), (∀ y ∈ l, ∀ cs, Rep w ok y cs → Rep w' ok' y cs) → ∀ A, RepL w ok l A → RepL w' ok' l A := by
    intro l
    induction l with
    | nil => intro _ A _; simp only [RepL]
    | cons y r ihl =>
      intro hy A hr
      simp only [RepL] at hr ⊢
      obtain ⟨b, o, rfl, hb, ⟨cs, hc, hR⟩, ht⟩ := hr
      have hR' := hR
      rw [Rep_def] at hR'
      obtain ⟨A', c', rfl, _, _⟩ := hR'
      have hlt : b < w.heap.size := World.block_lt_of_cell? w ⟨b, o + 0, none⟩ (hc 0 _ rfl)
      obtain ⟨hb', he⟩ := h b hb hlt
      refine ⟨b, o, rfl, hb', ⟨_, fun j v hv => ?_, hy y List.mem_cons_self _ hR⟩, ihl (fun z hz => hy z (List.mem_cons_of_mem _ hz)) _ ht⟩
      have := hc j v hv
      simp only [World.cell?] at this ⊢
      rw [he]; exact this
  have key : ∀ x : Val, ∀ cs, Rep w ok x cs → Rep w' ok' x cs := by
    refine Val.ind (fun x ih => ?_)
    intro cs hR
    rw [Rep_def] at hR ⊢
    obtain ⟨A, c, rfl, ht, hl, hc, hbig, hL⟩ := hR
    exact ⟨A, c, rfl, ht, hl, hc, hbig, hstep x.is ih A hL⟩
  exact fun l => hstep l (fun y _ => key y)

theorem Sl_move {w w' : World} {ok ok' : Nat → Prop} (h : ∀ k, ok k → k < w.heap.size → ok' k ∧ w'.heap[k]? = w.heap[k]?) {l : List Val} {A : Option Addr} {n c : Nat} (hs : Sl w ok l A n c) : Sl w' ok' l A n c :=
  ⟨hs.1, hs.2.1, hs.2.2.1, RepL_move h l A hs.2.2.2⟩
theorem Sl_mono {w : World} {ok ok' : Nat → Prop} {l : List Val} {A : Option Addr} {n c : Nat} (hs : Sl w ok l A n c) (h : ∀ k, ok k → k < w.heap.size → ok' k) : Sl w ok' l A n c := Sl_move (fun k hk hl => ⟨h k hk hl, rfl⟩) hs
theorem Sl_bound {w : World} {ok : Nat → Prop} {l : List Val} {A : Option Addr} {n c : Nat} (hs : Sl w ok l A n c) : Sl w (fun k => ok k ∧ k < w.heap.size) l A n c := Sl_mono hs (fun _ hk hl => ⟨hk, hl⟩)
/-- What is below stays. -/
theorem Sl_below {w w' : World} {ok : Nat → Prop} {l : List Val} {A : Option Addr} {n c : Nat} (hs : Sl w ok l A n c) {B : Nat} (hB : w.heap.size ≤ B) (hb : Below B w w') : Sl w' ok l A n c :=
  Sl_move (fun k hk hlt => ⟨hk, hb.block k (by omega)⟩) hs

theorem _root_.Go.RowKit.Below.then_ {w w1 w2 : World} {B C : Nat} (h : Below B w w1) (k : Below C w1 w2) (hB : B ≤ C) : Below B w w2 := h.trans (k.mono hB)
theorem _root_.Go.RowKit.Below.drew_ {w w1 : World} {B : Nat} (h : Below B w w1) : Below B w w1.drew := ⟨h.os, h.tape, h.output, h.size, h.block⟩
theorem _root_.Go.RowKit.Below.drewN_ {w w1 : World} {B : Nat} (h : Below B w w1) (n : Nat) : Below B w (w1.drewN n) := ⟨h.os, h.tape, h.output, h.size, h.block⟩
theorem _root_.Go.RowKit.Below.le {w w1 : World} {B : Nat} (h : Below B w w1) : w.heap.size ≤ w1.heap.size := h.size
theorem _root_.Go.RowKit.Below.alloc_ {w w1 : World} {B : Nat} (h : Below B w w1) (hB : B ≤ w.heap.size) (o : Obj) : Below B w (w1.alloc o) := h.alloc (Nat.le_trans hB h.size) o

/-- From a call's beginning on: a block is laid; an order is drawn; a call comes back. -/
theorem _root_.Go.RowKit.Below.al {w w1 : World} (h : Below w.heap.size w w1) (o : Obj) : Below w.heap.size w (w1.alloc o) := h.alloc h.size o
theorem _root_.Go.RowKit.Below.dr {w w1 : World} (h : Below w.heap.size w w1) : Below w.heap.size w w1.drew := h.drew_
theorem _root_.Go.RowKit.Below.call {w w1 w2 : World} (h : Below w.heap.size w w1) (k : Below w1.heap.size w1 w2) : Below w.heap.size w w2 := h.trans (k.mono h.size)
theorem Bl.refl (w : World) : Below w.heap.size w w := Below.refl _ _
theorem Sl_bl {w w' : World} {ok : Nat → Prop} {l : List Val} {A : Option Addr} {n c : Nat} (hs : Sl w ok l A n c) (hb : Below w.heap.size w w') : Sl w' ok l A n c := Sl_below hs (Nat.le_refl _) hb

/-- The item in a place. -/
theorem RepL_get {w : World} {ok : Nat → Prop} : ∀ {l : List Val} {A : Option Addr} (_ : RepL w ok l A) {i : Nat} {x : Val} (_ : l[i]? = some x), ∃ b o A' c', A = some ⟨b, o, none⟩ ∧ ok b ∧ b < w.heap.size ∧
    w.cell? ⟨b, o + i * 4, none⟩ = some (.int .i64 x.k) ∧ w.cell? ⟨b, o + i * 4 + 1, none⟩ = some (.int .i64 x.n) ∧ w.cell? ⟨b, o + i * 4 + 2, none⟩ = some (.string x.t) ∧
    w.cell? ⟨b, o + i * 4 + 3, none⟩ = some (.slice A' x.is.length c') ∧ x.t.size ≤ big ∧ Sl w ok x.is A' x.is.length c' := by
  intro l
  induction l with
  | nil => intro A _ i x hx; simp at hx
  | cons y r ih =>
    intro A h i x hx
    simp only [RepL] at h
    obtain ⟨b, o, rfl, hb, ⟨cs, hc, hR⟩, ht⟩ := h
    cases i with
    | zero =>
      simp only [List.getElem?_cons_zero, Option.some.injEq] at hx
      subst hx
      rw [Rep_def] at hR
      obtain ⟨A', c', rfl, hsz, hL⟩ := hR
      exact ⟨b, o, A', c', rfl, hb, World.block_lt_of_cell? w ⟨b, o + 0, none⟩ (hc 0 _ rfl), hc 0 _ rfl, hc 1 _ rfl, hc 2 _ rfl, hc 3 _ rfl, hsz, hL⟩
    | succ i =>
      simp only [List.getElem?_cons_succ] at hx
      obtain ⟨b', o', A', c', he, hb', hlt, h0, h1, h2, h3, hl, hL⟩ := ih ht hx
      injection he with he
      injection he with he1 he2
      subst he1; subst he2
      refine ⟨b, o, A', c', rfl, hb, hlt, ?_, ?_, ?_, ?_, hl, hL⟩
      · rw [← h0]; congr 2; omega
      · rw [← h1]; congr 2; omega
      · rw [← h2]; congr 2; omega
      · rw [← h3]; congr 2; omega

/-- The items from a place on. -/
theorem RepL_drop {w : World} {ok : Nat → Prop} : ∀ {l : List Val} {b o : Nat} (_ : RepL w ok l (some ⟨b, o, none⟩)) (i : Nat), RepL w ok (l.drop i) (some ⟨b, o + i * 4, none⟩) := by
  intro l
  induction l with
  | nil => intro b o _ i; simp only [List.drop_nil, RepL]
  | cons y r ih =>
    intro b o h i
    cases i with
    | zero => simpa using h
    | succ i =>
      simp only [RepL] at h
      obtain ⟨b', o', he, hb, _, ht⟩ := h
      injection he with he
      injection he with he1 he2
      subst he1; subst he2
      have := ih ht i
      simp only [List.drop_succ_cons]
      rwa [show o + (i + 1) * 4 = o + 4 + i * 4 by omega]

theorem RepL_take {w : World} {ok : Nat → Prop} : ∀ {l : List Val} {A : Option Addr} (_ : RepL w ok l A) (i : Nat), RepL w ok (l.take i) A := by
  intro l
  induction l with
  | nil => intro A _ i; simp only [List.take_nil, RepL]
  | cons y r ih =>
    intro A h i
    cases i with
    | zero => simp only [List.take_zero, RepL]
    | succ i =>
      simp only [RepL, List.take_succ_cons] at h ⊢
      obtain ⟨b, o, rfl, hb, hR, ht⟩ := h
      exact ⟨b, o, rfl, hb, hR, ih ht i⟩

/-- Put together out of its items. -/
theorem RepL_of_get {w : World} {ok : Nat → Prop} {b : Nat} (hb : ok b) : ∀ {l : List Val} {o : Nat}, (∀ i x, l[i]? = some x → ∃ A' c',
    w.cell? ⟨b, o + i * 4, none⟩ = some (.int .i64 x.k) ∧ w.cell? ⟨b, o + i * 4 + 1, none⟩ = some (.int .i64 x.n) ∧ w.cell? ⟨b, o + i * 4 + 2, none⟩ = some (.string x.t) ∧
    w.cell? ⟨b, o + i * 4 + 3, none⟩ = some (.slice A' x.is.length c') ∧ x.t.size ≤ big ∧ Sl w ok x.is A' x.is.length c') → RepL w ok l (some ⟨b, o, none⟩) := by
  intro l
  induction l with
  | nil => intro o _; simp only [RepL]
  | cons y r ih =>
    intro o h
    simp only [RepL]
    obtain ⟨A', c', h0, h1, h2, h3, hl, hL⟩ := h 0 y rfl
    refine ⟨b, o, rfl, hb, ⟨[.int .i64 y.k, .int .i64 y.n, .string y.t, .slice A' y.is.length c'], ?_, ?_⟩, ih ?_⟩
    · intro j v hv
      match j, hv with
      | 0, hv => injection hv with hv; subst hv; exact h0
      | 1, hv => injection hv with hv; subst hv; exact h1
      | 2, hv => injection hv with hv; subst hv; exact h2
      | 3, hv => injection hv with hv; subst hv; exact h3
      | n + 4, hv => simp at hv
    · rw [Rep_def]; exact ⟨A', c', rfl, hl, hL⟩
    · intro i x hx
      obtain ⟨A', c', h0, h1, h2, h3, hl, hL⟩ := h (i + 1) x (by simpa using hx)
      refine ⟨A', c', ?_, ?_, ?_, ?_, hl, hL⟩
      · rw [← h0]; congr 2; omega
      · rw [← h1]; congr 2; omega
      · rw [← h2]; congr 2; omega
      · rw [← h3]; congr 2; omega

/-- A variable in memory that holds a value. -/
def BoxAt (w : World) (b : Nat) (k n : Int) (t : ByteArray) (A : Option Addr) (m c : Nat) : Prop :=
  w.cell? ⟨b, 0, none⟩ = some (.int .i64 k) ∧ w.cell? ⟨b, 1, none⟩ = some (.int .i64 n) ∧ w.cell? ⟨b, 2, none⟩ = some (.string t) ∧ w.cell? ⟨b, 3, none⟩ = some (.slice A m c)
theorem BoxAt.later {w w' : World} {b : Nat} {k n : Int} {t : ByteArray} {A : Option Addr} {m c : Nat} (h : BoxAt w b k n t A m c) (hb : Below w.heap.size w w') : BoxAt w' b k n t A m c :=
  ⟨cell_later (a := ⟨b, 0, none⟩) hb h.1, cell_later (a := ⟨b, 1, none⟩) hb h.2.1, cell_later (a := ⟨b, 2, none⟩) hb h.2.2.1, cell_later (a := ⟨b, 3, none⟩) hb h.2.2.2⟩
theorem BoxAt.new (w : World) (k n : Int) (t : ByteArray) (A : Option Addr) (m c e : Nat) : BoxAt (w.alloc (.cells #[.int .i64 k, .int .i64 n, .string t, .slice A m c] e)) w.heap.size k n t A m c := ⟨by simp, by simp, by simp, by simp⟩

/-- A machine's value that reads as a value. -/
def IsV (w : World) (ok : Nat → Prop) (v : Value) (x : Val) : Prop := ∃ A c, v = .agg #[.int .i64 x.k, .int .i64 x.n, .string x.t, .slice A x.is.length c] ∧ x.t.size ≤ big ∧ Sl w ok x.is A x.is.length c
theorem IsV.mk {w : World} {ok : Nat → Prop} {k n : Int} {t : ByteArray} {l : List Val} {A : Option Addr} {m c : Nat} (ht : t.size ≤ big) (h : Sl w ok l A m c) : IsV w ok (.agg #[.int .i64 k, .int .i64 n, .string t, .slice A m c]) ⟨k, n, t, l⟩ := by
  obtain rfl := h.1
  exact ⟨A, c, rfl, ht, h⟩
theorem IsV.at {w : World} {ok : Nat → Prop} {x : Val} {A : Option Addr} {c : Nat} (ht : x.t.size ≤ big) (h : Sl w ok x.is A x.is.length c) : IsV w ok (.agg #[.int .i64 x.k, .int .i64 x.n, .string x.t, .slice A x.is.length c]) x := ⟨A, c, rfl, ht, h⟩
theorem IsV.bl {w w' : World} {ok : Nat → Prop} {v : Value} {x : Val} (h : IsV w ok v x) (hb : Below w.heap.size w w') : IsV w' ok v x := by
  obtain ⟨A, c, rfl, ht, hs⟩ := h
  exact ⟨A, c, rfl, ht, Sl_bl hs hb⟩
theorem IsV.mono {w : World} {ok ok' : Nat → Prop} {v : Value} {x : Val} (h : IsV w ok v x) (hk : ∀ k, ok k → k < w.heap.size → ok' k) : IsV w ok' v x := by
  obtain ⟨A, c, rfl, ht, hs⟩ := h
  exact ⟨A, c, rfl, ht, Sl_mono hs hk⟩
/-- A call hands back a value; a value and something; a value and two things. -/
def RetV (ok : Nat → Prop) (x : Val) (w : World) (e : Ending) (w' : World) : Prop := ∃ v, e = .returned v ∧ IsV w' ok v x ∧ Below w.heap.size w w'
def RetV2 (ok : Nat → Prop) (x : Val) (b : Value) (w : World) (e : Ending) (w' : World) : Prop := ∃ v, e = .returned (.tuple #[v, b]) ∧ IsV w' ok v x ∧ Below w.heap.size w w'
def RetV3 (ok : Nat → Prop) (x : Val) (b c : Value) (w : World) (e : Ending) (w' : World) : Prop := ∃ v, e = .returned (.tuple #[v, b, c]) ∧ IsV w' ok v x ∧ Below w.heap.size w w'
/-- The value of nothing. -/
def vz : Val := ⟨0, 0, ⟨#[]⟩, []⟩
theorem Sl_nil (w : World) (ok : Nat → Prop) : Sl w ok [] none 0 0 := ⟨rfl, Nat.le_refl _, by decide, by simp only [RepL]⟩
theorem IsV_vz (w : World) (ok : Nat → Prop) : IsV w ok (.agg #[.int .i64 0, .int .i64 0, .string ⟨#[]⟩, .slice none 0 0]) vz := ⟨none, 0, rfl, by decide, Sl_nil w ok⟩

/-- A variable in memory that may be written: what it holds. -/
def VarAt (w : World) (b : Nat) (k n : Int) (t : ByteArray) (A : Option Addr) (m c : Nat) : Prop :=
  BoxAt w b k n t A m c ∧ w.frozen? ⟨b, 0, none⟩ = false ∧ w.frozen? ⟨b, 1, none⟩ = false ∧ w.frozen? ⟨b, 2, none⟩ = false ∧ w.frozen? ⟨b, 3, none⟩ = false
theorem VarAt.later {w w' : World} {b : Nat} {k n : Int} {t : ByteArray} {A : Option Addr} {m c : Nat} (h : VarAt w b k n t A m c) (hb : Below w.heap.size w w') : VarAt w' b k n t A m c := by
  have hlt : b < w.heap.size := World.block_lt_of_cell? w ⟨b, 0, none⟩ h.1.1
  have hf : ∀ o, w'.frozen? ⟨b, o, none⟩ = w.frozen? ⟨b, o, none⟩ := fun o => hb.frozen (p := ⟨b, o, none⟩) hlt
  exact ⟨h.1.later hb, (hf 0).trans h.2.1, (hf 1).trans h.2.2.1, (hf 2).trans h.2.2.2.1, (hf 3).trans h.2.2.2.2⟩
theorem VarAt.new (w : World) (k n : Int) (t : ByteArray) (A : Option Addr) (m c e : Nat) : VarAt (w.alloc (.cells #[.int .i64 k, .int .i64 n, .string t, .slice A m c] e)) w.heap.size k n t A m c :=
  ⟨BoxAt.new w k n t A m c e, by simp, by simp, by simp, by simp⟩

/-- A value stored into a variable. -/
def set4 (w : World) (b : Nat) (k n : Int) (t : ByteArray) (A : Option Addr) (m c : Nat) : World :=
  (((w.setCell ⟨b, 0, none⟩ (.int .i64 k)).setCell ⟨b, 1, none⟩ (.int .i64 n)).setCell ⟨b, 2, none⟩ (.string t)).setCell ⟨b, 3, none⟩ (.slice A m c)
theorem set4_block {w : World} {b : Nat} {k n : Int} {t : ByteArray} {A : Option Addr} {m c : Nat} (i : Nat) (h : i ≠ b) : (set4 w b k n t A m c).heap[i]? = w.heap[i]? := by
  unfold set4
  rw [Below.heap_setCell _ _ _ _ h, Below.heap_setCell _ _ _ _ h, Below.heap_setCell _ _ _ _ h, Below.heap_setCell _ _ _ _ h]
theorem set4_below {w0 w : World} {B b : Nat} {k n : Int} {t : ByteArray} {A : Option Addr} {m c : Nat} (h : Below B w0 w) (hb : B ≤ b) : Below B w0 (set4 w b k n t A m c) :=
  (((h.setCell (p := ⟨b, 0, none⟩) hb _).setCell (p := ⟨b, 1, none⟩) hb _).setCell (p := ⟨b, 2, none⟩) hb _).setCell (p := ⟨b, 3, none⟩) hb _
theorem set4_var {w : World} {b : Nat} {k n k' n' : Int} {t t' : ByteArray} {A A' : Option Addr} {m c m' c' : Nat} (h : VarAt w b k' n' t' A' m' c') : VarAt (set4 w b k n t A m c) b k n t A m c := by
  obtain ⟨⟨z0, z1, z2, z3⟩, f0, f1, f2, f3⟩ := h
  unfold set4
  refine ⟨⟨?_, ?_, ?_, ?_⟩, ?_, ?_, ?_, ?_⟩
  · simp [go_sem, z0]
  · simp [go_sem, z1]
  · simp [go_sem, z2]
  · simp [go_sem, z3]
  · simpa using f0
  · simpa using f1
  · simpa using f2
  · simpa using f3
theorem set4_size {w : World} {b : Nat} {k n : Int} {t : ByteArray} {A : Option Addr} {m c : Nat} : (set4 w b k n t A m c).heap.size = w.heap.size := by
  simp [set4]
theorem Sl_set4 {w : World} {ok : Nat → Prop} {l : List Val} {A' : Option Addr} {m' c' : Nat} (h : Sl w ok l A' m' c') {b : Nat} (hb : ¬ ok b) (k n : Int) (t : ByteArray) (A : Option Addr) (m c : Nat) : Sl (set4 w b k n t A m c) ok l A' m' c' :=
  Sl_move (fun i hi _ => ⟨hi, set4_block i (by rintro rfl; exact hb hi)⟩) h
theorem IsV.set4 {w : World} {ok : Nat → Prop} {v : Value} {x : Val} (h : IsV w ok v x) {b : Nat} (hb : ¬ ok b) (k n : Int) (t : ByteArray) (A : Option Addr) (m c : Nat) : IsV (set4 w b k n t A m c) ok v x := by
  obtain ⟨A', c', rfl, ht, hs⟩ := h
  exact ⟨A', c', rfl, ht, Sl_set4 hs hb k n t A m c⟩

theorem VarAt.move {w w' : World} {b : Nat} {k n : Int} {t : ByteArray} {A : Option Addr} {m c : Nat} (h : VarAt w b k n t A m c) (he : w'.heap[b]? = w.heap[b]?) : VarAt w' b k n t A m c := by
  obtain ⟨⟨z0, z1, z2, z3⟩, f0, f1, f2, f3⟩ := h
  refine ⟨⟨?_, ?_, ?_, ?_⟩, ?_, ?_, ?_, ?_⟩ <;> (simp only [World.cell?, World.frozen?] at *; rw [he]; assumption)
theorem VarAt.other {w : World} {b b' : Nat} {k n k' n' : Int} {t t' : ByteArray} {A A' : Option Addr} {m c m' c' : Nat} (h : VarAt w b k n t A m c) (hne : b ≠ b') : VarAt (set4 w b' k' n' t' A' m' c') b k n t A m c :=
  h.move (set4_block b hne)

end Go.Proofs.YtmbgaaoneaplmaaDoor
