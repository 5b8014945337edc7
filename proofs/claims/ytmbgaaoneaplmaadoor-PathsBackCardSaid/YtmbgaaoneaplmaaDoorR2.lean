/- Arguments opened: what reads as a value, as a list of values, lies there as one. -/
import Derived.Test.YtmbgaaoneaplmaaDoorR1
namespace Go.Proofs.YtmbgaaoneaplmaaDoor
open Go.ChangeShapes Go.WideShapes Go.ChangeAt Go.RowKit Go.Lib

theorem list_of_all {α : Type} {p : Nat → α → Prop} : ∀ (n : Nat), (∀ i, i < n → ∃ x, p i x) → ∃ l : List α, l.length = n ∧ ∀ i x, l[i]? = some x → p i x
  | 0, _ => ⟨[], rfl, fun i x h => by simp at h⟩
  | n + 1, h => by
    obtain ⟨l, hl, hp⟩ := list_of_all n (fun i hi => h i (by omega))
    obtain ⟨x, hx⟩ := h n (by omega)
    refine ⟨l ++ [x], by simp [hl], fun i y hy => ?_⟩
    rcases Nat.lt_or_ge i l.length with hi | hi
    · rw [List.getElem?_append_left hi] at hy; exact hp i y hy
    · rw [List.getElem?_append_right hi] at hy
      have h0 : i - l.length = 0 := by
        rcases Nat.eq_zero_or_pos (i - l.length) with h0 | h0
        · exact h0
        · rw [List.getElem?_eq_none (by simp; omega)] at hy; cases hy
      rw [h0] at hy
      simp at hy; subst hy
      have : i = n := by omega
      subst this; exact hx

theorem weights_mem_all {H : Type} {P : Program} {e : TypeId} : ∀ {ds : List (DataW H)} {d : DataW H}, d ∈ ds → ∀ n ∈ d.weights P e, n ∈ DataW.weightsAll P e ds
  | [], _, h => by cases h
  | a :: ds, d, h => by
    intro n hn
    simp only [DataW.weightsAll, List.mem_append]
    cases h with
    | head => exact Or.inl hn
    | tail _ h => exact Or.inr (weights_mem_all h n hn)

theorem reach_eq : reachBytes = 140737488351232 := by decide

variable {H : Type} {enc : TypeId × Value → H} {W : World} {base : Nat} {sp : Nat → Bool} {hd : Bool}

def Opens24 (enc : TypeId × Value → H) (W : World) (base : Nat) (sp : Nat → Bool) (hd : Bool) (fuel : Nat) : Prop := ∀ cs x, DataW.trod enc Tryd.prog W base sp hd fuel 24 cs = some x → (∀ n ∈ x.1.weights Tryd.prog 24, n ≤ reachBytes) →
  ∃ (v : Val) (A : Option Addr) (c : Nat), cs = [.int .i64 v.k, .int .i64 v.n, .string v.t, .slice A v.is.length c] ∧ v.t.size ≤ big ∧ Sl W (fun _ => True) v.is A v.is.length c
def Opens22 (enc : TypeId × Value → H) (W : World) (base : Nat) (sp : Nat → Bool) (hd : Bool) (fuel : Nat) : Prop := ∀ cs x, DataW.trod enc Tryd.prog W base sp hd fuel 22 cs = some x → (∀ n ∈ x.1.weights Tryd.prog 22, n ≤ reachBytes) →
  ∃ (l : List Val) (A : Option Addr) (n c : Nat), cs = [.slice A n c] ∧ Sl W (fun _ => True) l A n c

set_option maxRecDepth 100000 in
theorem opens22_of (fuel : Nat) (ih : ∀ m, m < fuel → Opens24 enc W base sp hd m) : Opens22 enc W base sp hd fuel := by
  intro cs x h hw
  rcases DataW.trod_slice Tryd.underlying22 h with ⟨rfl, rfl⟩ | ⟨a, len, cap, elems, rest, n, rfl, rfl, rfl, hb, hlc, hcm, hel, helem, _, _⟩
  · exact ⟨[], none, 0, 0, rfl, Sl_nil _ _⟩
  · have hsize : (len + rest.length) * 56 ≤ 140737488351232 := by
      have := hw ((elems.length + rest.length) * 56) (by simp [DataW.weights, Tryd.underlying22, bytes24])
      rw [reach_eq, hel] at this
      exact this
    have hbig : len ≤ big := by unfold big; omega
    rcases Nat.eq_zero_or_pos len with h0 | h0
    · subst h0
      exact ⟨[], some a, 0, cap, rfl, rfl, by omega, by unfold big; omega, by simp only [RepL]⟩
    · have hspot : a.spot = none := by
        have he := helem 0 h0
        obtain ⟨y, hy⟩ : ∃ y, elems[0]? = some y := ⟨elems[0]'(by omega), List.getElem?_eq_getElem _⟩
        rw [hy] at he
        obtain ⟨cs', hcs, hy'⟩ := Option.bind_eq_some_iff.1 he
        obtain ⟨_, hlen, hcell⟩ := World.cells?_some hcs
        rw [cells24] at hcell hlen
        have g0 := hcell 0 (by omega)
        rw [List.getElem?_eq_getElem (by omega)] at g0
        have := World.cell?_spot g0
        simpa [Addr.add] using this
      obtain ⟨b, o, s⟩ := a
      simp only at hspot
      subst hspot
      have hone : ∀ i, i < len → ∃ v : Val, ∃ A' c', W.cell? ⟨b, o + i * 4, none⟩ = some (.int .i64 v.k) ∧ W.cell? ⟨b, o + i * 4 + 1, none⟩ = some (.int .i64 v.n) ∧
          W.cell? ⟨b, o + i * 4 + 2, none⟩ = some (.string v.t) ∧ W.cell? ⟨b, o + i * 4 + 3, none⟩ = some (.slice A' v.is.length c') ∧ v.t.size ≤ big ∧ Sl W (fun _ => True) v.is A' v.is.length c' := by
        intro i hi
        have he := helem i hi
        obtain ⟨y, hy⟩ : ∃ y, elems[i]? = some y := ⟨elems[i]'(by omega), List.getElem?_eq_getElem _⟩
        rw [hy] at he
        obtain ⟨cs', hcs, hy'⟩ := Option.bind_eq_some_iff.1 he
        obtain ⟨_, hlen, hcell⟩ := World.cells?_some hcs
        obtain ⟨v, A', c', rfl, ht, hs⟩ := ih n (by omega) cs' y hy' (fun m hm => hw m (by
          simp only [DataW.weights, Tryd.underlying22, List.mem_cons, List.mem_append]
          exact Or.inr (Or.inl (weights_mem_all (List.mem_map_of_mem (List.mem_of_getElem? hy)) m hm))))
        rw [cells24] at hcell
        have h0 := hcell 0 (by omega)
        have h1 := hcell 1 (by omega)
        have h2 := hcell 2 (by omega)
        have h3 := hcell 3 (by omega)
        simp only [add_plain] at h0 h1 h2 h3
        exact ⟨v, A', c', h0, h1, h2, h3, ht, hs⟩
      obtain ⟨l, hll, hp⟩ := list_of_all len hone
      exact ⟨l, some ⟨b, o, none⟩, len, cap, rfl, hll, hlc, hbig, RepL_of_get (ok := fun _ => True) trivial (fun i x hx => hp i x hx)⟩

set_option maxRecDepth 100000 in
theorem opens24_of (fuel : Nat) (ih : ∀ m, m < fuel → Opens22 enc W base sp hd m) : Opens24 enc W base sp hd fuel := by
  intro cs x h hw
  obtain ⟨xs, m, rfl, rfl, hl, hlen, hf⟩ := DataW.trod_struct Tryd.underlying24 h
  rw [cells24] at hl
  match xs, hlen, cs, hl with
  | [y0, y1, y2, y3], _, [v0, v1, v2, v3], _ =>
    have g0 := hf 0 _ rfl
    have g1 := hf 1 _ rfl
    have g2 := hf 2 _ rfl
    have g3 := hf 3 _ rfl
    simp [cells3, cells2, cells9, cells22] at g0 g1 g2 g3
    obtain ⟨k, hv0, rfl, _⟩ := DataW.trod_int Tryd.underlying3 g0
    obtain ⟨n, hv1, rfl, _⟩ := DataW.trod_int Tryd.underlying2 g1
    obtain ⟨t, hv2, rfl, _⟩ := DataW.trod_string Tryd.underlying9 g2
    obtain ⟨l, A, n', c, hv3, hs⟩ := ih m (by omega) _ y3 g3 (fun q hq => hw q (by
      simp only [DataW.weights, Tryd.underlying24, List.map_cons, List.map_nil, DataW.weightsEach, List.mem_append]
      exact Or.inr (Or.inr (Or.inr (Or.inl hq)))))
    have ht : t.data.toList.length ≤ reachBytes := hw _ (by
      simp only [DataW.weights, Tryd.underlying24, List.map_cons, List.map_nil, DataW.weightsEach, List.mem_append]
      exact Or.inr (Or.inr (Or.inl (List.mem_singleton.2 rfl))))
    rw [reach_eq] at ht
    simp only [List.cons.injEq, and_true] at hv0 hv1 hv2 hv3
    subst hv0; subst hv1; subst hv2; subst hv3
    obtain rfl := hs.1
    refine ⟨⟨k, n, t, l⟩, A, c, rfl, ?_, hs⟩
    have : t.size = t.data.toList.length := rfl
    show t.size ≤ big
    unfold big; omega

theorem opens (fuel : Nat) : Opens24 enc W base sp hd fuel ∧ Opens22 enc W base sp hd fuel := by
  induction fuel using Nat.strongRecOn with
  | _ fuel ih => exact ⟨opens24_of fuel (fun m hm => (ih m hm).2), opens22_of fuel (fun m hm => (ih m hm).1)⟩

/-- Values among the arguments. -/
theorem open_vals {v : Value} {d : DataW H} {ps : List MemPlace} (h : DataW.Trod enc Tryd.prog W base sp hd 22 v d ps) (hw : ∀ n ∈ d.weights Tryd.prog 22, n ≤ reachBytes) (hv : ∃ A n c, v = .slice A n c) :
    ∃ (l : List Val) (A : Option Addr) (n c : Nat), v = .slice A n c ∧ Sl W (fun _ => True) l A n c := by
  obtain ⟨A', n', c', rfl⟩ := hv
  obtain ⟨f, hf⟩ := h
  obtain ⟨l, A, n, c, he, hs⟩ := (opens f).2 _ _ hf hw
  simp only [Value.cells, List.cons.injEq, and_true] at he
  exact ⟨l, A, n, c, he, hs⟩
/-- A value among the arguments. -/
theorem open_val {v : Value} {d : DataW H} {ps : List MemPlace} (h : DataW.Trod enc Tryd.prog W base sp hd 24 v d ps) (hw : ∀ n ∈ d.weights Tryd.prog 24, n ≤ reachBytes) (hv : ∃ cs, v = .agg cs) :
    ∃ (x : Val) (A : Option Addr) (c : Nat), v = .agg #[.int .i64 x.k, .int .i64 x.n, .string x.t, .slice A x.is.length c] ∧ x.t.size ≤ big ∧ Sl W (fun _ => True) x.is A x.is.length c := by
  obtain ⟨cs, rfl⟩ := hv
  obtain ⟨f, hf⟩ := h
  obtain ⟨x, A, c, he, ht, hs⟩ := (opens f).1 _ _ hf hw
  refine ⟨x, A, c, ?_, ht, hs⟩
  simp only [Value.cells] at he
  congr 1
  exact Array.toList_inj.1 he
end Go.Proofs.YtmbgaaoneaplmaaDoor
