/- Walks: the order of values, in the program and in the reference. -/
import Derived.Test.YtmbgaaoneaplmaaDoorB1
namespace Go.Proofs.YtmbgaaoneaplmaaDoor
open Go.RowKit

/-- A contract of the order, at one value. -/
def CmpAt (f : FuncId) (x : Val) : Prop := ∀ (y : Val) (ok ok' : Nat → Prop) (A B : Option Addr) (c d : Nat) (w : World) (_ : Sl w ok x.is A x.is.length c) (_ : Sl w ok' y.is B y.is.length d),
  Calls Tryd.prog f #[.agg #[.int .i64 x.k, .int .i64 x.n, .string x.t, .slice A x.is.length c], .agg #[.int .i64 y.k, .int .i64 y.n, .string y.t, .slice B y.is.length d]] w fun e w' => e = .returned (.int .i64 (vcmp x y)) ∧ Below w.heap.size w w'

set_option maxHeartbeats 1000000 in
set_option maxRecDepth 100000 in
theorem compare_step (k n k' n' : Int) (t t' : ByteArray) (l s : List Val) (ok ok' : Nat → Prop) (A B : Option Addr) (p q c d : Nat) (w : World) (hx : Sl w ok l A p c) (hy : Sl w ok' s B q d) (ih : CmpOn 90 l) :
    Calls Tryd.prog 90 #[.agg #[.int .i64 k, .int .i64 n, .string t, .slice A p c], .agg #[.int .i64 k', .int .i64 n', .string t', .slice B q d]] w fun e w' => e = .returned (.int .i64 (vcmp ⟨k, n, t, l⟩ ⟨k', n', t', s⟩)) ∧ Below w.heap.size w w' := by
  have IH := Lib.hid ih
  clear ih
  by_cases hk : k = k'
  · subst hk
    by_cases h1 : k = 1
    · subst h1
      have hv : vcmp ⟨1, n, t, l⟩ ⟨1, n', t', s⟩ = Lib.compareInt n n' := by simp [vcmp]
      rw [hv]; clear hv
      go_enter Tryd.func90, Tryd.ntmps90
      go_wp2_with fail
      refine (compare64_calls _ _ _).mono ?_
      rintro e w1 ⟨rfl, rfl⟩
      go_wp2
      go_ret
      exact ⟨rfl, ((Bl.refl _).al _).al _⟩
    · by_cases h2 : k = 2
      · subst h2
        have hv : vcmp ⟨2, n, t, l⟩ ⟨2, n', t', s⟩ = Lib.compareInt n n' := by simp [vcmp]
        rw [hv]; clear hv
        go_enter Tryd.func90, Tryd.ntmps90
        go_wp2_with fail
        refine (compare64_calls _ _ _).mono ?_
        rintro e w1 ⟨rfl, rfl⟩
        go_wp2
        go_ret
        exact ⟨rfl, ((Bl.refl _).al _).al _⟩
      · by_cases h3 : k = 3
        · subst h3
          have hv : vcmp ⟨3, n, t, l⟩ ⟨3, n', t', s⟩ = scmp t t' := by simp [vcmp]
          rw [hv]; clear hv
          go_enter Tryd.func90, Tryd.ntmps90
          go_wp2_with fail
          refine (Tryd.strings_Compare _ _ _).mono ?_
          rintro e w1 ⟨rfl, rfl⟩
          go_wp2
          go_ret
          exact ⟨rfl, ((Bl.refl _).al _).al _⟩
        · by_cases h4 : k = 4 ∨ k = 5 ∨ k = 6
          · have hv : vcmp ⟨k, n, t, l⟩ ⟨k, n', t', s⟩ = lcmp l s := by simp [vcmp, h1, h2, h3, h4]
            rw [hv]; clear hv
            rcases h4 with h4 | h4 | h4 <;> subst h4 <;> (
              go_enter Tryd.func90, Tryd.ntmps90
              go_wp2_with fail
              refine (compareFunc_calls _ _ _ _ _ _ _ _ _ _ _ (Sl_bl hx (((Bl.refl _).al _).al _)) (Sl_bl hy (((Bl.refl _).al _).al _)) IH.out).mono ?_
              rintro e w1 ⟨rfl, hb⟩
              go_wp2
              go_ret
              exact ⟨rfl, (((Bl.refl _).al _).al _).call hb⟩)
          · have hv : vcmp ⟨k, n, t, l⟩ ⟨k, n', t', s⟩ = 0 := by simp [vcmp, h1, h2, h3, h4]
            rw [hv]; clear hv
            obtain ⟨h5, h6, h7⟩ : (k == 4) = false ∧ (k == 5) = false ∧ (k == 6) = false := by simp; omega
            have h8 : (k == 1) = false := by simp [h1]
            have h9 : (k == 2) = false := by simp [h2]
            have h10 : (k == 3) = false := by simp [h3]
            clear h1 h2 h3 h4
            go_enter Tryd.func90, Tryd.ntmps90
            go_wp2
            go_ret
            exact ⟨rfl, ((Bl.refl _).al _).al _⟩
  · have hv : vcmp ⟨k, n, t, l⟩ ⟨k', n', t', s⟩ = Lib.compareInt k k' := by simp [vcmp, hk]
    rw [hv]; clear hv
    go_enter Tryd.func90, Tryd.ntmps90
    go_wp2_with fail
    refine (Tryd.cmp_Compare_int _ _ _).mono ?_
    rintro e w1 ⟨rfl, rfl⟩
    go_wp2
    go_ret
    exact ⟨rfl, ((Bl.refl _).al _).al _⟩

theorem compare_at (x : Val) : CmpAt 90 x := by
  refine Val.ind (p := CmpAt 90) (fun x ih => ?_) x
  intro y ok ok' A B c d w hx hy
  cases x; cases y
  exact compare_step _ _ _ _ _ _ _ _ ok ok' A B _ _ c d w hx hy (fun z hz => ih z hz)
/-- value.Compare. -/
theorem compare_calls (k n k' n' : Int) (t t' : ByteArray) (l s : List Val) (ok ok' : Nat → Prop) (A B : Option Addr) (p q c d : Nat) (w : World) (hx : Sl w ok l A p c) (hy : Sl w ok' s B q d) :
    Calls Tryd.prog 90 #[.agg #[.int .i64 k, .int .i64 n, .string t, .slice A p c], .agg #[.int .i64 k', .int .i64 n', .string t', .slice B q d]] w fun e w' => e = .returned (.int .i64 (vcmp ⟨k, n, t, l⟩ ⟨k', n', t', s⟩)) ∧ Below w.heap.size w w' :=
  compare_step k n k' n' t t' l s ok ok' A B p q c d w hx hy (fun z _ => compare_at z)
/-- value.Equal. -/
theorem equal_calls (k n k' n' : Int) (t t' : ByteArray) (l s : List Val) (ok ok' : Nat → Prop) (A B : Option Addr) (p q c d : Nat) (w : World) (hx : Sl w ok l A p c) (hy : Sl w ok' s B q d) :
    Calls Tryd.prog 109 #[.agg #[.int .i64 k, .int .i64 n, .string t, .slice A p c], .agg #[.int .i64 k', .int .i64 n', .string t', .slice B q d]] w fun e w' => e = .returned (.bool (decide (vcmp ⟨k, n, t, l⟩ ⟨k', n', t', s⟩ = 0))) ∧ Below w.heap.size w w' := by
  go_enter Tryd.func109, Tryd.ntmps109
  go_wp2_with fail
  refine (compare_calls _ _ _ _ _ _ _ _ _ _ _ _ _ _ _ _ _ (Sl_bl hx (((Bl.refl _).al _).al _)) (Sl_bl hy (((Bl.refl _).al _).al _))).mono ?_
  rintro e w1 ⟨rfl, hb⟩
  go_wp2
  go_ret
  exact ⟨rfl, (((Bl.refl _).al _).al _).call hb⟩
theorem equal_at (x y : Val) (ok ok' : Nat → Prop) (A B : Option Addr) (c d : Nat) (w : World) (hx : Sl w ok x.is A x.is.length c) (hy : Sl w ok' y.is B y.is.length d) :
    Calls Tryd.prog 109 #[.agg #[.int .i64 x.k, .int .i64 x.n, .string x.t, .slice A x.is.length c], .agg #[.int .i64 y.k, .int .i64 y.n, .string y.t, .slice B y.is.length d]] w fun e w' => e = .returned (.bool (decide (vcmp x y = 0))) ∧ Below w.heap.size w w' := by
  cases x; cases y
  exact equal_calls _ _ _ _ _ _ _ _ ok ok' A B _ _ c d w hx hy
end Go.Proofs.YtmbgaaoneaplmaaDoor
