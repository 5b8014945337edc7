/- Plain laws: Get behind Put at one path is what was put; put twice the second one counts. -/
import Derived.Test.YtmbgaaoneaplmaaDoorE9
namespace Go.Proofs.YtmbgaaoneaplmaaDoor
open Go.RowKit

theorem compareInt_self (a : Int) : Lib.compareInt a a = 0 := by simp [Lib.compareInt]
theorem compareBytes_self : ∀ l : List UInt8, Lib.compareBytes l l = 0
  | [] => rfl
  | a :: l => by simp only [Lib.compareBytes]; rw [if_neg (UInt8.lt_irrefl a), if_neg (UInt8.lt_irrefl a)]; exact compareBytes_self l
theorem scmp_self (a : ByteArray) : scmp a a = 0 := compareBytes_self _
theorem vcmp_self : ∀ x : Val, vcmp x x = 0 := by
  refine Val.ind (fun x ih => ?_)
  have hl : ∀ l : List Val, (∀ y ∈ l, vcmp y y = 0) → lcmp l l = 0 := by
    intro l
    induction l with
    | nil => intro _; rfl
    | cons a l ihl =>
      intro h
      simp only [lcmp]
      rw [if_neg (by simp [h a List.mem_cons_self])]
      exact ihl (fun y hy => h y (List.mem_cons_of_mem _ hy))
  rw [vcmp_def]
  simp [compareInt_self, scmp_self, hl x.is ih]
theorem veq_self : ∀ x : Val, veq x x = true := by
  refine Val.ind (fun x ih => ?_)
  rw [veq_def]
  simp only [decide_true, Bool.true_and]
  exact veqL_true rfl (fun i a b ha hb => by rw [ha] at hb; injection hb with hb; subst hb; exact ih a (List.mem_of_getElem? ha))

theorem keyF_shift : ∀ (l : List Val) (s : Val) (i : Nat), keyF l s i = ((keyF l s 0).1 + i, (keyF l s 0).2)
  | [], s, i => by simp [keyF]
  | [x], s, i => by simp only [keyF]; split <;> simp [Nat.add_comm]
  | x :: y :: r, s, i => by
    simp only [keyF]
    split
    · simp
    · rw [keyF_shift r s (i + 2), keyF_shift r s (0 + 2)]; simp; omega
theorem keyF_set0 : ∀ (l : List Val) (s y : Val), (keyF l s 0).2 = true → keyF (l.set ((keyF l s 0).1 + 1) y) s 0 = keyF l s 0
  | [], s, y, h => by simp [keyF] at h
  | [x], s, y, h => by
    simp only [keyF] at h ⊢
    split at h
    · rename_i hx; simp [hx, keyF]
    · simp at h
  | x :: z :: r, s, y, h => by
    simp only [keyF] at h ⊢
    split at h
    · rename_i hx; simp [hx, keyF]
    · rename_i hx
      rw [keyF_shift] at h
      simp only [hx, if_false]
      have ih := keyF_set0 r s y h
      rw [keyF_shift r s (0 + 2)]
      simp only [Nat.zero_add, List.set_cons_succ, keyF, hx, if_false]
      rw [keyF_shift _ s 2, ih]
theorem keyF_ins0 : ∀ (l : List Val) (s y : Val), l.length % 2 = 0 → (keyF l s 0).2 = false → keyF (l.take (keyF l s 0).1 ++ ([s, y] ++ l.drop (keyF l s 0).1)) s 0 = ((keyF l s 0).1, true)
  | [], s, y, _, h => by simp [keyF, vcmp_self]
  | [x], s, y, he, h => by simp at he
  | x :: z :: r, s, y, he, h => by
    simp only [keyF] at h ⊢
    split at h
    · rename_i hx; simp [hx, keyF, vcmp_self]
    · rename_i hx
      rw [keyF_shift] at h
      simp only [hx, if_false]
      have ih := keyF_ins0 r s y (by simp at he; omega) h
      rw [keyF_shift r s (0 + 2)]
      simp only [Nat.zero_add, List.take_succ_cons, List.drop_succ_cons, List.cons_append, keyF, hx, if_false]
      rw [keyF_shift _ s 2]
      simp only [List.cons_append, List.nil_append] at ih
      simp only [List.nil_append]
      rw [ih]

/-- Step s leads to place j of a. -/
def StepAt (a s : Val) (j : Nat) : Prop :=
  j < a.is.length ∧ a.n = 0 ∧ a.t = ⟨#[]⟩ ∧ ((a.k = 4 ∧ idxOk a.is.length s.k s.n = true ∧ j = s.n.toNat) ∨ (a.k = 6 ∧ (keyF a.is s 0).2 = true ∧ j = (keyF a.is s 0).1 + 1))
theorem StepAt.part {a s : Val} {j : Nat} (h : StepAt a s j) : partF a s = (a.is.getD j vz, true) := by
  obtain ⟨_, _, _, ⟨h1, h2, rfl⟩ | ⟨h1, h2, rfl⟩⟩ := h
  · unfold partF; rw [if_neg (by omega), if_pos h1, if_pos h2]
  · unfold partF; rw [if_pos h1, if_pos h2]
theorem StepAt.put {a s : Val} {j : Nat} (h : StepAt a s j) (r : List Val) (u : Val) : putF a (s :: r) u = (putF (a.is.getD j vz) r u).map (fun z => ⟨a.k, 0, ⟨#[]⟩, a.is.set j z⟩) := by
  have hp := h.part
  obtain ⟨_, _, _, ⟨h1, h2, rfl⟩ | ⟨h1, h2, rfl⟩⟩ := h
  · simp only [putF]
    rw [if_pos h1, if_pos h2, hp, h1]
  · simp only [putF]
    rw [if_neg (by omega), if_pos (by omega), hp, h1]
    simp only [h2, if_true]
theorem StepAt.set {a s : Val} {j : Nat} (h : StepAt a s j) (z : Val) : StepAt ⟨a.k, 0, ⟨#[]⟩, a.is.set j z⟩ s j := by
  obtain ⟨h0, _, _, ⟨h1, h2, rfl⟩ | ⟨h1, h2, rfl⟩⟩ := h
  · exact ⟨by simpa using h0, rfl, rfl, .inl ⟨h1, by simpa using h2, rfl⟩⟩
  · have := keyF_set0 a.is s z h2
    exact ⟨by simpa using h0, rfl, rfl, .inr ⟨h1, by simp only [this]; exact h2, by simp only [this]⟩⟩
theorem getD_set_self {l : List Val} {j : Nat} (h : j < l.length) (z d : Val) : (l.set j z).getD j d = z := by
  simp [List.getD_eq_getElem?_getD, h]
theorem set_getD_self {l : List Val} {j : Nat} (h : j < l.length) (d : Val) : l.set j (l.getD j d) = l := by
  rw [List.getD_eq_getElem?_getD, List.getElem?_eq_getElem h]
  simp
theorem put_step {v s x a : Val} {r : List Val} (hev : EvV v) (h : putF v (s :: r) x = some a) : ∃ j, StepAt a s j ∧ putF (partF v s).1 r x = some (a.is.getD j vz) := by
  simp only [putF] at h
  split at h
  · rename_i h4
    split at h
    · rename_i hi
      obtain ⟨y, hy, rfl⟩ := Option.map_eq_some_iff.1 h
      have hi' := hi
      simp only [idxOk, decide_eq_true_eq] at hi'
      have hlt : s.n.toNat < v.is.length := by omega
      refine ⟨s.n.toNat, ⟨by simpa using hlt, rfl, rfl, .inl ⟨rfl, by simpa using hi, rfl⟩⟩, ?_⟩
      rw [hy]; simp only [getD_set_self hlt]
    · split at h
      · rename_i hn
        obtain ⟨y, hy, rfl⟩ := Option.map_eq_some_iff.1 h
        have e : s.n.toNat = v.is.length := by omega
        refine ⟨s.n.toNat, ⟨by simp; omega, rfl, rfl, .inl ⟨rfl, ?_, rfl⟩⟩, ?_⟩
        · simp [idxOk]; omega
        · rw [hy, e]; simp [List.getD_eq_getElem?_getD]
      · cases h
  · rename_i h4
    split at h
    · rename_i h6
      obtain ⟨y, hy, rfl⟩ := Option.map_eq_some_iff.1 h
      have hev2 : v.is.length % 2 = 0 := ((EvV_def v).1 hev).1 h4 (by omega)
      cases hk : (keyF v.is s 0).2 with
      | true =>
        have hlt := keyF_lt v.is s 0 hev2 hk
        have hs := keyF_set0 v.is s y hk
        refine ⟨(keyF v.is s 0).1 + 1, ⟨by simp; omega, rfl, rfl, .inr ⟨rfl, ?_, ?_⟩⟩, ?_⟩
        · simp only [if_true, hs]; exact hk
        · simp only [if_true, hs]
        · rw [hy]; simp only [if_true]; rw [getD_set_self (by omega)]
      | false =>
        have hs := keyF_ins0 v.is s y hev2 hk
        have hle := keyF_le v.is s 0
        have hl : (v.is.take (keyF v.is s 0).1).length = (keyF v.is s 0).1 := by rw [List.length_take]; omega
        refine ⟨(keyF v.is s 0).1 + 1, ⟨?_, rfl, rfl, .inr ⟨rfl, ?_, ?_⟩⟩, ?_⟩
        · simp only [Bool.false_eq_true, if_false, List.length_append, List.length_cons, hl]; omega
        · simp only [Bool.false_eq_true, if_false, hs]
        · simp only [Bool.false_eq_true, if_false, hs]
        · rw [hy]; simp only [Bool.false_eq_true, if_false]
          rw [List.getD_eq_getElem?_getD, List.getElem?_append_right (by omega), hl]
          simp
    · cases h
theorem get_put {l : List Val} : ∀ {v x a : Val}, EvV v → EvL l → putF v l x = some a → atF a l = (x, true) := by
  induction l with
  | nil => intro v x a _ _ h; simp only [putF, Option.some.injEq] at h; subst h; rfl
  | cons s r ih =>
    intro v x a hv hl h
    simp only [EvL] at hl
    obtain ⟨j, hj, hp⟩ := put_step hv h
    have := ih (EvV_part hv hl.1) hl.2 hp
    simp only [atF, hj.part, if_true]
    exact this
theorem put_again {l : List Val} : ∀ {v x a : Val}, EvV v → EvL l → putF v l x = some a → ∀ u, ∃ c, putF a l u = some c ∧ putF c l x = some a := by
  induction l with
  | nil => intro v x a _ _ h u; simp only [putF, Option.some.injEq] at h; subst h; exact ⟨u, rfl, rfl⟩
  | cons s r ih =>
    intro v x a hv hl h u
    simp only [EvL] at hl
    obtain ⟨j, hj, hp⟩ := put_step hv h
    obtain ⟨y2, h1, h2⟩ := ih (EvV_part hv hl.1) hl.2 hp u
    have hlt := hj.1
    have hn := hj.2.1
    have ht := hj.2.2.1
    refine ⟨⟨a.k, 0, ⟨#[]⟩, a.is.set j y2⟩, by rw [hj.put, h1]; rfl, ?_⟩
    rw [(hj.set y2).put]
    simp only [getD_set_self hlt]
    rw [h2]
    simp only [Option.map_some, List.set_set]
    rw [set_getD_self hlt]
    rw [← hn, ← ht]
    cases a; rfl
end Go.Proofs.YtmbgaaoneaplmaaDoor
