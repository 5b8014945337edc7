/- Walks: value.plain. -/
import Derived.Test.YtmbgaaoneaplmaaDoorB4
namespace Go.Proofs.YtmbgaaoneaplmaaDoor
open Go.RowKit

theorem ret_bool {a b : Bool} (h : a = b) : Ending.returned (.bool a) = .returned (.bool b) := by rw [h]
/-- Is a value right, its items aside? -/
def plainB (k n : Int) (t : ByteArray) : Bool :=
  if (k ≠ 3 ∧ t.toList ≠ []) ∨ (k ≠ 2 ∧ k ≠ 1 ∧ n ≠ 0) then false
  else if k = 1 then decide (n = 0 ∨ n = 1)
  else if k = 3 then decide (t.size ≤ 256) && utfB t
  else decide (0 ≤ k ∧ k ≤ 6)

set_option maxHeartbeats 1000000 in
set_option maxRecDepth 100000 in
theorem plain_calls (k n : Int) (t : ByteArray) (A : Option Addr) (m c : Nat) (w : World) (hT : Lib.Utf8Tabs 1 2 w) (hs : t.size ≤ big) :
    Calls Tryd.prog 134 #[.agg #[.int .i64 k, .int .i64 n, .string t, .slice A m c]] w fun e w' => e = .returned (.bool (plainB k n t)) ∧ Below w.heap.size w w' := by
  have hs' : t.size ≤ 140737488355328 := hs
  have HT := Lib.hid hT
  clear hT hs
  by_cases h3 : k = 3
  · subst h3
    by_cases hn : n = 0
    · subst hn
      by_cases hsz : t.size ≤ 256
      · go_enter Tryd.func134, Tryd.ntmps134
        go_wp2_with fail
        refine (utf_calls _ _ (Utf8Tabs_below HT.out ((Bl.refl _).al _)) hs').mono ?_
        rintro e w1 ⟨rfl, hb⟩
        go_wp2
        go_ret
        exact ⟨ret_bool (by simp [plainB, hsz]), ((Bl.refl _).al _).call hb⟩
      · go_enter Tryd.func134, Tryd.ntmps134
        go_wp2
        go_ret
        exact ⟨ret_bool (by simp [plainB, hsz]), (Bl.refl _).al _⟩
    · go_enter Tryd.func134, Tryd.ntmps134
      go_wp2
      go_ret
      exact ⟨ret_bool (by simp [plainB, hn]), (Bl.refl _).al _⟩
  · by_cases ht : t.toList = []
    · by_cases h1 : k = 1
      · subst h1
        by_cases hn : n = 0
        · subst hn
          go_enter Tryd.func134, Tryd.ntmps134
          go_wp2
          go_ret
          exact ⟨ret_bool (by simp [plainB, ht]), (Bl.refl _).al _⟩
        · go_enter Tryd.func134, Tryd.ntmps134
          go_wp2
          go_ret
          exact ⟨ret_bool (by rw [show (n == 0) = false from by simp [hn]]; simp [plainB, ht, hn]; rfl), (Bl.refl _).al _⟩
      · by_cases h2 : k = 2
        · subst h2
          go_enter Tryd.func134, Tryd.ntmps134
          go_wp2
          go_ret
          exact ⟨ret_bool (by simp [plainB, ht]), (Bl.refl _).al _⟩
        · by_cases hn : n = 0
          · subst hn
            by_cases h0 : 0 ≤ k
            · go_enter Tryd.func134, Tryd.ntmps134
              go_wp2
              all_goals (go_ret; exact ⟨ret_bool (by simp [plainB, ht, h1, h2, h3, h0]), (Bl.refl _).al _⟩)
            · go_enter Tryd.func134, Tryd.ntmps134
              go_wp2
              all_goals (go_ret; exact ⟨ret_bool (by simp [plainB, ht, h1, h2, h3]; omega), (Bl.refl _).al _⟩)
          · have e1 : (k != 1) = true := by simp [h1]
            have e2 : (k != 2) = true := by simp [h2]
            have e3 : (n != 0) = true := by simp [hn]
            go_enter Tryd.func134, Tryd.ntmps134
            go_wp2
            go_ret
            exact ⟨ret_bool (by simp [plainB, h1, h2, hn]), (Bl.refl _).al _⟩
    · go_enter Tryd.func134, Tryd.ntmps134
      go_wp2
      go_ret
      exact ⟨ret_bool (by simp [plainB, ht, h3]), (Bl.refl _).al _⟩
end Go.Proofs.YtmbgaaoneaplmaaDoor
