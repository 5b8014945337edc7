/- Walks: the order of values, in the program and in the reference; equality in all fields. -/
import Derived.Test.YtmbgaaoneaplmaaDoorP0
import Derived.Test.YtmbgaaoneaplmaaDoorShelf
namespace Go.Proofs.YtmbgaaoneaplmaaDoor
open Go.RowKit

theorem ret_int {k : IntKind} {a b : Int} (h : a = b) : Ending.returned (.int k a) = .returned (.int k b) := by rw [h]

theorem sign_calls (a b : Bool) (w : World) : Calls Tryd.prog 161 #[.bool a, .bool b] w fun e w' => e = .returned (.int .i64 (if a = true then -1 else if b = true then 1 else 0)) ∧ w = w' := by
  cases a <;> cases b <;> (go_enter Tryd.func161, Tryd.ntmps161; go_wp2; go_ret; exact ⟨rfl, rfl⟩)

theorem isNaN64_calls (a : Int) (w : World) : Calls Tryd.prog 163 #[.int .i64 a] w fun e w' => e = .returned (.bool false) ∧ w = w' := by
  go_enter Tryd.func163, Tryd.ntmps163
  go_wp2
  go_ret
  exact ⟨by simp, rfl⟩

theorem compare64_calls (a b : Int) (w : World) : Calls Tryd.prog 125 #[.int .i64 a, .int .i64 b] w fun e w' => e = .returned (.int .i64 (Lib.compareInt a b)) ∧ w = w' := by
  unfold Lib.compareInt
  by_cases h1 : a < b
  · rw [if_pos h1]
    go_enter Tryd.func125, Tryd.ntmps125
    go_wp2_with (go_at_call 163; refine (isNaN64_calls _ _).mono ?_; rintro e w' ⟨rfl, rfl⟩)
    go_ret
    exact ⟨rfl, rfl⟩
  · rw [if_neg h1]
    by_cases h2 : a > b
    · rw [if_pos h2]
      go_enter Tryd.func125, Tryd.ntmps125
      go_wp2_with (go_at_call 163; refine (isNaN64_calls _ _).mono ?_; rintro e w' ⟨rfl, rfl⟩)
      go_ret
      exact ⟨rfl, rfl⟩
    · rw [if_neg h2]
      go_enter Tryd.func125, Tryd.ntmps125
      go_wp2_with (go_at_call 163; refine (isNaN64_calls _ _).mono ?_; rintro e w' ⟨rfl, rfl⟩)
      go_ret
      exact ⟨rfl, rfl⟩

/-- What is asked of the order's own calls on the items. -/
def CmpOn (f : FuncId) (l : List Val) : Prop := ∀ z ∈ l, ∀ (y : Val) (ok ok' : Nat → Prop) (A B : Option Addr) (c d : Nat) (w : World) (_ : Sl w ok z.is A z.is.length c) (_ : Sl w ok' y.is B y.is.length d),
  Calls Tryd.prog f #[.agg #[.int .i64 z.k, .int .i64 z.n, .string z.t, .slice A z.is.length c], .agg #[.int .i64 y.k, .int .i64 y.n, .string y.t, .slice B y.is.length d]] w fun e w' => e = .returned (.int .i64 (vcmp z y)) ∧ Below w.heap.size w w'

set_option maxHeartbeats 400000 in
set_option maxRecDepth 100000 in
theorem compareFunc_calls (ok ok' : Nat → Prop) (l s : List Val) (A B : Option Addr) (n m c d : Nat) (w : World) (hx : Sl w ok l A n c) (hy : Sl w ok' s B m d) (ih : CmpOn 90 l) :
    Calls Tryd.prog 127 #[.slice A n c, .slice B m d, .func (.func 90) #[] #[]] w fun e w' => e = .returned (.int .i64 (lcmp l s)) ∧ Below w.heap.size w w' := by
  have IH := Lib.hid ih
  clear ih
  have hn : n ≤ 140737488355328 := hx.le
  have hm : m ≤ 140737488355328 := hy.le
  go_enter Tryd.func127, Tryd.ntmps127
  go_wp2
  go_loopw [13] (fun i wr => ∃ j : Nat, j ≤ n ∧ j ≤ m ∧ i = .int .i64 j ∧ Hid (∀ q, q < j → ∀ a b, l[q]? = some a → s[q]? = some b → vcmp a b = 0) ∧ Below w.heap.size w wr) (fun i _ => n - (intOf i).toNat)
  case atStart => exact ⟨0, by omega, by omega, rfl, Lib.hid (by intros; omega), Below.refl _ _⟩
  case round =>
    obtain ⟨i, hi, hi', rfl, HK, hB⟩ := hrel
    by_cases hlt : i < n
    · obtain ⟨x, hxi⟩ : ∃ x, l[i]? = some x := ⟨l[i]'(by rw [hx.1]; exact hlt), List.getElem?_eq_getElem _⟩
      obtain ⟨bx, ox, Ax, cx, rfl, _, hbx, ex0, ex1, ex2, ex3, _, Sx⟩ := RepL_get (Sl_below hx (Nat.le_refl _) hB).2.2.2 hxi
      have HXI := Lib.hid hxi
      clear hxi
      by_cases hlt' : i < m
      · obtain ⟨y, hyi⟩ : ∃ y, s[i]? = some y := ⟨s[i]'(by rw [hy.1]; exact hlt'), List.getElem?_eq_getElem _⟩
        obtain ⟨by_, oy, Ay, cy, rfl, _, hby, ey0, ey1, ey2, ey3, _, Sy⟩ := RepL_get (Sl_below hy (Nat.le_refl _) hB).2.2.2 hyi
        have HYI := Lib.hid hyi
        clear hyi
        go_wp2_with fail
        refine (IH.out x (List.mem_of_getElem? HXI.out) y _ _ _ _ _ _ _ (Sl_bl Sx (((Bl.refl _).al _).al _)) (Sl_bl Sy (((Bl.refl _).al _).al _))).mono ?_
        rintro e w1 ⟨rfl, hb⟩
        have hB1 : Below w.heap.size w w1 := ((hB.al _).al _).call hb
        by_cases hv : vcmp x y = 0
        · have hv' : (vcmp x y != 0) = false := by simp [hv]
          have HV := Lib.hid hv
          clear hv
          go_wp2
          go_roundw
          case rel =>
            refine ⟨i + 1, by omega, by omega, by go_num, Lib.hid (fun l hl a b ha hb => ?_), hB1⟩
            rcases Nat.lt_or_ge l i with h | h
            · exact HK.out l h a b ha hb
            · obtain rfl : l = i := by omega
              rw [HXI.out] at ha; rw [HYI.out] at hb
              injection ha with ha; injection hb with hb
              subst ha; subst hb; exact HV.out
          case measure => simp [intOf]; omega
        · have hv' : (vcmp x y != 0) = true := by simp [hv]
          have HV := Lib.hid hv
          clear hv
          go_wp2
          go_ret
          exact ⟨ret_int (lcmp_at HXI.out HYI.out HK.out HV.out).symm, hB1⟩
      · obtain rfl : i = m := by omega
        go_wp2
        go_ret
        refine ⟨ret_int ?_, hB.al _⟩
        rw [lcmp_end (i := i) (by rw [hx.1]; omega) (by rw [hy.1]; omega) HK.out (.inr hy.1), if_neg (by rw [hx.1, hy.1]; omega), if_pos (by rw [hx.1, hy.1]; omega)]
    · obtain rfl : i = n := by omega
      by_cases hnm : i < m
      · go_wp2
        go_ret
        refine ⟨ret_int ?_, hB⟩
        rw [lcmp_end (i := i) (by rw [hx.1]; omega) (by rw [hy.1]; omega) HK.out (.inl hx.1), if_pos (by rw [hx.1, hy.1]; omega)]
      · go_wp2
        go_ret
        refine ⟨ret_int ?_, hB⟩
        rw [lcmp_end (i := i) (by rw [hx.1]; omega) (by rw [hy.1]; omega) HK.out (.inl hx.1), if_neg (by rw [hx.1, hy.1]; omega), if_neg (by rw [hx.1, hy.1]; omega)]

end Go.Proofs.YtmbgaaoneaplmaaDoor
