/- Walks: paths.put. -/
import Derived.Test.YtmbgaaoneaplmaaDoorD5
import Derived.Test.YtmbgaaoneaplmaaDoorC8
import Derived.WalkLawsBesides
namespace Go.Proofs.YtmbgaaoneaplmaaDoor
open Go.RowKit

/-- A value with something else at a path; nothing: there is no such place. -/
def putF : Val → List Val → Val → Option Val
  | _, [], x => some x
  | v, s :: r, x =>
    if v.k = 4 then
      if idxOk v.is.length s.k s.n = true then (putF (partF v s).1 r x).map (fun y => ⟨4, 0, ⟨#[]⟩, v.is.set s.n.toNat y⟩)
      else if s.k = 2 ∧ s.n = v.is.length then (putF (partF v s).1 r x).map (fun y => ⟨4, 0, ⟨#[]⟩, v.is ++ [y]⟩)
      else none
    else if v.k = 0 ∨ v.k = 6 then
      (putF (partF v s).1 r x).map (fun y => ⟨6, 0, ⟨#[]⟩, if (keyF v.is s 0).2 = true then v.is.set ((keyF v.is s 0).1 + 1) y else v.is.take (keyF v.is s 0).1 ++ ([s, y] ++ v.is.drop (keyF v.is s 0).1)⟩)
    else none

/-- The end of a put: a value, or its own panic. -/
def PutR (ok : Nat → Prop) (r : Option Val) (w : World) (e : Ending) (w' : World) : Prop :=
  match r with
  | some y => RetV (fun k => ok k ∨ w.heap.size ≤ k) y w e w'
  | none => e = .panicked [{ v := .iface 122 (.agg #[.int .i64 260]), recovered := false }] ∧ Below w.heap.size w w'

def PutC (l : List Val) : Prop := ∀ (v x : Val) (ok : Nat → Prop) (A B D : Option Addr) (c m d p : Nat) (w : World), Sl w ok v.is A v.is.length c → v.t.size ≤ big → Sl w ok l B m d → Sl w ok x.is D x.is.length p → x.t.size ≤ big → EvV v → EvL l →
  Calls Tryd.prog 45 #[.agg #[.int .i64 v.k, .int .i64 v.n, .string v.t, .slice A v.is.length c], .slice B m d, .agg #[.int .i64 x.k, .int .i64 x.n, .string x.t, .slice D x.is.length p]] w (PutR ok (putF v l x) w)

set_option maxHeartbeats 1000000 in
set_option maxRecDepth 100000 in
theorem put_nil : PutC [] := by
  intro v x ok A B D c m d p w hv hvt hl hx hxt _ _
  obtain rfl : m = 0 := hl.1.symm
  go_enter Tryd.func45, Tryd.ntmps45
  go_wp2
  refine bodyPost_ret (v := .agg #[.int .i64 x.k, .int .i64 x.n, .string x.t, .slice D x.is.length p]) (by simp [results, Tryd.results45, go_sem]) rfl ⟨_, rfl, ?_, ?_⟩
  · exact ((IsV.at hxt hx).bl ((((Bl.refl _).al _).al _).al _)).mono (fun k hk _ => .inl hk)
  · exact ((((Bl.refl _).al _).al _).al _)

/-- The rest of a path. -/
theorem Sl_rest {w : World} {ok : Nat → Prop} {s : Val} {r : List Val} {b o m d : Nat} (h : Sl w ok (s :: r) (some ⟨b, o, none⟩) m d) : (m = 1 → Sl w ok r (some ⟨b, o, none⟩) 0 0) ∧ (m ≠ 1 → Sl w ok r (some ⟨b, o + 4, none⟩) (m - 1) (m - 1)) := by
  obtain ⟨h1, h2, h3, h4⟩ := h
  simp only [List.length_cons] at h1
  refine ⟨fun hm => ?_, fun _ => ⟨by omega, Nat.le_refl _, by omega, ?_⟩⟩
  · have : r = [] := List.eq_nil_of_length_eq_zero (by omega)
    subst this
    exact ⟨rfl, Nat.le_refl _, by decide, by simp only [RepL]⟩
  · simp only [RepL] at h4
    obtain ⟨b', o', he, _, _, ht⟩ := h4
    injection he with he
    injection he with he1 he2
    subst he1; subst he2
    exact ht

theorem size24 (W : World) : (Go.sizeOf 24).run Tryd.prog W = .ok 4 W := by
  obtain ⟨i0, hi, _, h1, _⟩ := info_parts24
  simp [sizeOf, typeInfo, hi, h1]
theorem cut_rest {w : World} {ok : Nat → Prop} {s : Val} {r : List Val} {b o m d : Nat} (h : Sl w ok (s :: r) (some ⟨b, o, none⟩) m d) :
    ∃ B' m', (∀ W : World, (Instr.slice 22 (.slice (some ⟨b, o, none⟩) m d) (some (.int .i64 1)) (some (.int .i64 m)) (some (.int .i64 m))).run Tryd.prog W = .ok (.slice B' m' m') W) ∧ Sl w ok r B' m' m' := by
  have hm : r.length + 1 = m := h.1
  have hd : m ≤ d := h.2.1
  have HR := Sl_rest h
  have hel : Tryd.prog.elem 22 = 24 := by kernel_rfl
  have hrun : ∀ W : World, (Instr.slice 22 (.slice (some ⟨b, o, none⟩) m d) (some (.int .i64 1)) (some (.int .i64 m)) (some (.int .i64 m))).run Tryd.prog W = .ok (sliced (some ⟨b, o, none⟩) 1 m m 4) W := by
    intro W
    have := run_slice_lhm (P := Tryd.prog) W 22 (some ⟨b, o, none⟩) m d (by rw [hel]; exact Tryd.underlying22) .i64 .i64 .i64 1 m m (by omega) (by omega) (by omega) (by omega)
    rw [this, hel, size24]
    simp [Result.andThen]
  by_cases h1 : m = 1
  · subst h1
    exact ⟨some ⟨b, o, none⟩, 0, fun W => by rw [hrun]; simp [sliced], HR.1 rfl⟩
  · exact ⟨some ⟨b, o + 4, none⟩, m - 1, fun W => by rw [hrun]; simp [sliced, h1, Addr.add], HR.2 h1⟩

theorem BoxAt.al1 {w w2 : World} {o : Obj} {b : Nat} {k n : Int} {t : ByteArray} {A : Option Addr} {m c : Nat} (h : BoxAt w b k n t A m c) (hb : Below (w.alloc o).heap.size (w.alloc o) w2) : BoxAt w2 b k n t A m c := (h.later ((Bl.refl _).al o)).later hb
theorem VarAt.al1 {w w2 : World} {o : Obj} {b : Nat} {k n : Int} {t : ByteArray} {A : Option Addr} {m c : Nat} (h : VarAt w b k n t A m c) (hb : Below (w.alloc o).heap.size (w.alloc o) w2) : VarAt w2 b k n t A m c := (h.later ((Bl.refl _).al o)).later hb
theorem BoxAt.lt {w : World} {b : Nat} {k n : Int} {t : ByteArray} {A : Option Addr} {m c : Nat} (h : BoxAt w b k n t A m c) : b < w.heap.size := World.block_lt_of_cell? w ⟨b, 0, none⟩ h.1

abbrev four (w : World) (a1 a2 a3 a4 b1 b2 b3 b4 c1 c2 c3 c4 : Value) : World :=
  (((w.alloc (.cells #[a1, a2, a3, a4] 24)).alloc (.cells #[b1, b2, b3, b4] 24)).alloc (.cells #[.int .i64 0, .int .i64 0, .string ⟨#[]⟩, .slice none 0 0] 24)).alloc (.cells #[c1, c2, c3, c4] 24)
/-- What a put has laid when its part is found: the value, the new one, the result's variable, the step. -/
theorem four_boxes (w w1 : World) (k n xk xn sk sn : Int) (t xt st : ByteArray) (A D S : Option Addr) (m c p q u v : Nat)
    (hb : Below (four w (.int .i64 k) (.int .i64 n) (.string t) (.slice A m c) (.int .i64 xk) (.int .i64 xn) (.string xt) (.slice D p q) (.int .i64 sk) (.int .i64 sn) (.string st) (.slice S u v)).drew.heap.size (four w (.int .i64 k) (.int .i64 n) (.string t) (.slice A m c) (.int .i64 xk) (.int .i64 xn) (.string xt) (.slice D p q) (.int .i64 sk) (.int .i64 sn) (.string st) (.slice S u v)).drew w1) :
    BoxAt w1 w.heap.size k n t A m c ∧ BoxAt w1 (w.heap.size + 1) xk xn xt D p q ∧ VarAt w1 (w.heap.size + 1 + 1) 0 0 ⟨#[]⟩ none 0 0 ∧ BoxAt w1 (w.heap.size + 1 + 1 + 1) sk sn st S u v ∧ Below w.heap.size w w1 ∧ w.heap.size + 3 < w1.heap.size := by
  have hsz : w.heap.size + 4 ≤ w1.heap.size := by
    have := hb.size
    simp only [four] at this
    simpa using this
  refine ⟨((BoxAt.new w k n t A m c 24).later ((((Bl.refl _).al _).al _).al _).dr).later hb, ?_, ?_, ?_, (((((Bl.refl _).al _).al _).al _).al _).dr.call hb, by omega⟩
  · have := ((BoxAt.new (w.alloc (.cells #[.int .i64 k, .int .i64 n, .string t, .slice A m c] 24)) xk xn xt D p q 24).later (((Bl.refl _).al _).al _).dr).later hb
    simpa using this
  · have := ((VarAt.new ((w.alloc (.cells #[.int .i64 k, .int .i64 n, .string t, .slice A m c] 24)).alloc (.cells #[.int .i64 xk, .int .i64 xn, .string xt, .slice D p q] 24)) 0 0 ⟨#[]⟩ none 0 0 24).later ((Bl.refl _).al _).dr).later hb
    simpa using this
  · have := (BoxAt.new (((w.alloc (.cells #[.int .i64 k, .int .i64 n, .string t, .slice A m c] 24)).alloc (.cells #[.int .i64 xk, .int .i64 xn, .string xt, .slice D p q] 24)).alloc (.cells #[.int .i64 0, .int .i64 0, .string ⟨#[]⟩, .slice none 0 0] 24)) sk sn st S u v 24).later (Bl.refl _).dr |>.later hb
    simpa using this

/-- What is the call's own stays so. -/
theorem OwnN.later {w w' : World} {base : Nat} {P : Nat → Prop} {v : Value} {l : List Val} (h : OwnN w base P v l) (hb : Below w.heap.size w w') : OwnN w' base P v l := by
  rcases h with h | ⟨b, cap, rows, rfl, hbb, hO, hl⟩
  · exact .inl h
  · exact .inr ⟨b, cap, rows, rfl, hbb, hO.move (hb.block b hO.lt) (fun h => h.2.1 rfl) (fun k hk hlt => ⟨⟨hk.1, hk.2.1, Nat.lt_of_lt_of_le hk.2.2 hb.size⟩, hb.block k hlt⟩), hl⟩
theorem OwnN.of_S {w : World} {base : Nat} {ok P : Nat → Prop} {v : Value} {l : List Val} (h : OwnS w base (fun k => ok k ∧ k < base) v l) (hP : ∀ k, ok k → k < base → P k) : OwnN w base P v l := by
  rcases h with h | ⟨b, cap, rows, rfl, hbb, hO, hl⟩
  · exact .inl h
  · exact .inr ⟨b, cap, rows, rfl, hbb, hO.move rfl (fun h => h.2.1 rfl) (fun k hk hlt => ⟨⟨hP k hk.1 hk.2, by have := hk.2; omega, hlt⟩, rfl⟩), hl⟩
theorem OwnN.mono {w : World} {base : Nat} {P P' : Nat → Prop} {v : Value} {l : List Val} (h : OwnN w base P v l) (hP : ∀ k, P k → k < w.heap.size → P' k) : OwnN w base P' v l := by
  rcases h with h | ⟨b, cap, rows, rfl, hbb, hO, hl⟩
  · exact .inl h
  · exact .inr ⟨b, cap, rows, rfl, hbb, hO.move rfl (fun h => h.2.1 rfl) (fun k hk hlt => ⟨⟨hP k hk.1 hlt, hk.2.1, hlt⟩, rfl⟩), hl⟩
theorem IsV_own {w : World} {base : Nat} {P ok : Nat → Prop} {v : Value} {l : List Val} (h : OwnN w base P v l) (hl : l.length ≤ big) (k n : Int) {t : ByteArray} (ht : t.size ≤ big) (hok : ∀ k, P k → ok k) (hbase : ∀ k, base ≤ k → ok k) : IsV w ok (.agg #[.int .i64 k, .int .i64 n, .string t, v]) ⟨k, n, t, l⟩ := by
  rcases h with ⟨rfl, rfl⟩ | ⟨b, cap, rows, rfl, hbb, hO, rfl⟩
  · exact IsV.mk ht (Sl_nil _ _)
  · exact IsV.mk ht (hO.sl (by simpa using hl) (fun k hk => hok k hk.1) (hbase b hbb))
theorem OwnN.set4 {w : World} {base : Nat} {P : Nat → Prop} {v : Value} {l : List Val} (h : OwnN w base P v l) {b' : Nat} (hb' : b' < base) (hP : ¬ P b') (k n : Int) (t : ByteArray) (A : Option Addr) (m c : Nat) : OwnN (set4 w b' k n t A m c) base P v l := by
  rcases h with h | ⟨b, cap, rows, rfl, hbb, hO, hl⟩
  · exact .inl h
  · exact .inr ⟨b, cap, rows, rfl, hbb, hO.move (set4_block b (by omega)) (fun h => h.2.1 rfl) (fun k hk hlt => ⟨⟨hk.1, hk.2.1, by rw [set4_size]; exact hk.2.2⟩, set4_block k (by rintro rfl; exact hP hk.1)⟩), hl⟩
theorem OwnN.form {w : World} {base : Nat} {P : Nat → Prop} {v : Value} {l : List Val} (h : OwnN w base P v l) : ∃ A c, v = .slice A l.length c ∧ OwnN w base P (.slice A l.length c) l ∧ ∀ k, (Value.slice A l.length c).ownBlock = some k → base ≤ k ∧ k < w.heap.size := by
  have h' := h
  rcases h with ⟨rfl, rfl⟩ | ⟨b, cap, rows, rfl, hbb, hO, rfl⟩
  · exact ⟨none, 0, rfl, h', fun k hk => by simp [Value.ownBlock] at hk⟩
  · refine ⟨some ⟨b, 0, none⟩, cap, by rw [List.length_map], by rw [List.length_map]; exact h', fun k hk => ?_⟩
    simp only [Value.ownBlock, Option.some.injEq] at hk
    subst hk
    exact ⟨hbb, hO.lt⟩
theorem OwnN.some_ {w : World} {base : Nat} {P : Nat → Prop} {v : Value} {l : List Val} (h : OwnN w base P v l) (hl : l ≠ []) : ∃ b cap rows, v = .slice (some ⟨b, 0, none⟩) rows.length cap ∧ base ≤ b ∧ OwnB w (fun k => P k ∧ k ≠ b ∧ k < w.heap.size) b cap rows ∧ rows.map (·.x) = l := by
  rcases h with ⟨_, h⟩ | h
  · exact absurd h hl
  · exact h
theorem heap_two (w : World) (o1 o2 : Obj) : ((w.alloc o1).alloc o2).heap[w.heap.size + 1]? = some o2 := by
  have h := heap_alloc_new (w.alloc o1) o2
  rwa [World.size_alloc] at h
theorem BoxAt.move {w w' : World} {b : Nat} {k n : Int} {t : ByteArray} {A : Option Addr} {m c : Nat} (h : BoxAt w b k n t A m c) (he : w'.heap[b]? = w.heap[b]?) : BoxAt w' b k n t A m c := by
  obtain ⟨z0, z1, z2, z3⟩ := h
  refine ⟨?_, ?_, ?_, ?_⟩ <;> (simp only [World.cell?] at *; rw [he]; assumption)
theorem VarAt.set3 {w : World} {b : Nat} {k n : Int} {t : ByteArray} {A A' : Option Addr} {m c m' c' : Nat} (h : VarAt w b k n t A m c) : VarAt (w.setCell ⟨b, 3, none⟩ (.slice A' m' c')) b k n t A' m' c' := by
  obtain ⟨⟨z0, z1, z2, z3⟩, f0, f1, f2, f3⟩ := h
  refine ⟨⟨?_, ?_, ?_, ?_⟩, ?_, ?_, ?_, ?_⟩
  · simp [go_sem, z0]
  · simp [go_sem, z1]
  · simp [go_sem, z2]
  · simp [go_sem, z3]
  · simpa using f0
  · simpa using f1
  · simpa using f2
  · simpa using f3
theorem OwnN.sl {w : World} {base : Nat} {P : Nat → Prop} {A : Option Addr} {c : Nat} {l : List Val} (h : OwnN w base P (.slice A l.length c) l) (hl : l.length ≤ big) : Sl w (fun k => P k ∨ base ≤ k) l A l.length c := by
  rcases h with ⟨h, rfl⟩ | ⟨b, cap, rows, h, hbb, hO, rfl⟩
  · injection h with h1 h2 h3
    subst h1; subst h3
    exact Sl_nil _ _
  · injection h with h1 h2 h3
    subst h1; subst h3
    have := hO.sl (ok' := fun k => P k ∨ base ≤ k) (by simpa using hl) (fun k hk => .inl hk.1) (.inr hbb)
    rwa [List.length_map]
theorem key_at {i : Nat} {b : Bool} (k n : Int) (t : ByteArray) (l : List Val) (s : Val) (ok ok' : Nat → Prop) (A B : Option Addr) (m c d : Nat) (w : World) (hx : Sl w ok l A m c) (hs : Sl w ok' s.is B s.is.length d) (hr : keyF l s 0 = (i, b)) :
    Calls Tryd.prog 97 #[.agg #[.int .i64 k, .int .i64 n, .string t, .slice A m c], .agg #[.int .i64 s.k, .int .i64 s.n, .string s.t, .slice B s.is.length d]] w fun e w' =>
      e = .returned (.tuple #[.int .i64 i, .bool b]) ∧ Below w.heap.size w w' := by
  cases s
  exact key_calls' k n _ _ t _ l _ ok ok' A B m c _ d w hx hs hr
theorem keyF_le : ∀ (l : List Val) (s : Val) (i : Nat), (keyF l s i).1 ≤ i + l.length
  | [], s, i => by simp [keyF]
  | [x], s, i => by simp only [keyF]; split <;> simp
  | x :: y :: r, s, i => by
    simp only [keyF]
    split
    · simp
    · have := keyF_le r s (i + 2)
      simp; omega
/-- A value of nothing appended. -/
theorem wpList_append_zero {ops : Array Oper} {rest : List Oper} {o : Oper} {a : Act} {Q : Exit → Act → World → Prop} {w : World} (hgd : o.guard = none) (s x : Operand)
    (ho : o.op = .call { callee := .builtin .append, args := #[s, x], argTypes := #[22, 22] }) (base : Nat) (P : Nat → Prop) (v : Value) (l : List Val) (hv : a.eval s = v) (h : OwnN w base P v l)
    (b : Nat) (hx : a.eval x = .slice (some ⟨b, 0, none⟩) 1 1) (hb : w.heap[b]? = some (.cells #[.int .i64 0, .int .i64 0, .string ⟨#[]⟩, .slice none 0 0] 24 (0, 0))) (hlen : l.length + 1 ≤ 1000000) (hbase : base ≤ w.heap.size)
    (hk : ∀ v' w', OwnN w' base P v' (l ++ [vz]) → w.grownBy w' v.ownBlock → (v'.ownBlock = v.ownBlock ∨ v'.ownBlock = some w.heap.size) → wpList Tryd.prog ops Q rest (a.put o.dst v') w') :
    wpList Tryd.prog ops Q (o :: rest) a w := by
  obtain ⟨rows, hrl, hrow, hgr⟩ := h.rows
  have hrn : rows.length = l.length := by rw [← hrl, List.length_map]
  have hS : Sl w (fun _ => True) [vz] (some ⟨b, 0, none⟩) 1 1 := Sl_of_block (rows := [⟨vz, none, 0⟩]) hb (by intro r hr; cases List.mem_singleton.1 hr; exact ⟨by decide, Sl_nil _ _⟩) trivial (by decide) (Nat.le_refl _)
  refine wpList_append_rows hgd s x ho base v rows hv hrow (fun _ => True) [vz] _ 1 1 hx hS (by omega) hbase (fun v' w' news hm hg hown hgrw hat => hk v' w' ?_ hgrw hat)
  have hh : l ++ [vz] = (rows ++ news).map (·.x) := by rw [List.map_append, hrl, hm]
  rw [hh]
  have hmv : ∀ k, (P k ∧ some k ≠ v.ownBlock ∧ k < w.heap.size) → k < w.heap.size → (P k ∧ some k ≠ v'.ownBlock ∧ k < w'.heap.size) ∧ w'.heap[k]? = w.heap[k]? := by
    intro k hp hlt
    refine ⟨⟨hp.1, ?_, Nat.lt_of_lt_of_le hlt hgrw.4⟩, hgrw.block k hlt hp.2.1⟩
    rcases hat with hat | hat
    · rw [hat]; exact hp.2.1
    · rw [hat]; intro hq; injection hq with hq; omega
  have hnew : Good w' (fun k => P k ∧ some k ≠ v'.ownBlock ∧ k < w'.heap.size) news := by
    intro r hr
    have hr' : r.x = vz := by
      have := List.mem_map_of_mem (f := (·.x)) hr
      rw [hm] at this
      exact List.mem_singleton.1 this
    have := hg r hr
    rw [hr'] at this ⊢
    exact ⟨this.1, this.2.1, this.2.2.1, this.2.2.2.1, by simp only [vz, RepL]⟩
  exact OwnN.of_row hown ((hgr.move hmv).append hnew)
/-- An item stored. -/
theorem OwnN.put {w : World} {base : Nat} {P : Nat → Prop} {b cap : Nat} {rows : List Cel} (hbb : base ≤ b) (hO : OwnB w (fun k => P k ∧ k ≠ b ∧ k < w.heap.size) b cap rows) {i : Nat} (hi : i < rows.length) {y : Val} {A : Option Addr} {c : Nat} (ht : y.t.size ≤ big) (hs : Sl w (fun k => P k ∧ k ≠ b) y.is A y.is.length c) :
    OwnN (set4O w b (i * 4) y.k y.n y.t A y.is.length c) base P (.slice (some ⟨b, 0, none⟩) rows.length cap) ((rows.map (·.x)).set i y) := by
  have h := hO.set hi ht (Sl_mono hs (fun k hk hlt => ⟨hk.1, hk.2, hlt⟩))
  refine .inr ⟨b, cap, _, by simp, hbb, h.move rfl (fun h => h.2.1 rfl) (fun k hk hlt => ⟨⟨hk.1, hk.2.1, by rw [set4O_size]; exact hk.2.2⟩, rfl⟩), ?_⟩
  rw [List.map_set]
end Go.Proofs.YtmbgaaoneaplmaaDoor
