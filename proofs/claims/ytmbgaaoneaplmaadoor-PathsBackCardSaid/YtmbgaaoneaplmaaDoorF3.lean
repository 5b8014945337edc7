/- Plain law: what is put stands there. -/
import Derived.Test.YtmbgaaoneaplmaaDoorF2
namespace Go.Proofs.YtmbgaaoneaplmaaDoor
open Go.RowKit

theorem putG_ok {v x a : Val} {l : List Val} (h : putG v l x = (a, 0)) : rightB v = true ∧ askF l = 0 ∧ rightB x = true ∧ putF v l x = some a ∧ rightB a = true := by
  unfold putG at h
  split at h
  · cases h
  · rename_i h1
    split at h
    · rename_i h2
      exact absurd (congrArg Prod.snd h) h2
    · rename_i h2
      split at h
      · cases h
      · rename_i h3
        have h2' : askF l = 0 := Classical.byContradiction h2
        cases hp : putF v l x with
        | none => rw [hp] at h; simp [caughtF] at h
        | some y =>
          rw [hp] at h
          simp only [caughtF] at h
          split at h
          · rename_i h4
            injection h with h _
            subst h
            exact ⟨by simpa using h1, h2', by simpa using h3, rfl, h4⟩
          · simp at h
theorem putG_mk {v x : Val} {l : List Val} (h1 : rightB v = true) (h2 : askF l = 0) (h3 : rightB x = true) : putG v l x = caughtF (putF v l x) := by
  unfold putG
  rw [if_neg (by rw [h1]; decide), if_neg (by rw [h2]; decide), if_neg (by rw [h3]; decide)]
theorem back_get {v x a : Val} {l : List Val} (h : putG v l x = (a, 0)) : getF a l = (x, true, 0) := by
  obtain ⟨h1, h2, h3, h4, h5⟩ := putG_ok h
  unfold getF
  rw [if_neg (by rw [h5]; decide), if_neg (by rw [h2]; decide), get_put (right_ev h1) (ask_ev h2) h4]
theorem back_put {v x a : Val} {l : List Val} (h : putG v l x = (a, 0)) : (∃ c, putG a l v = (c, 0) ∧ putG c l x = (a, 0)) ∨ putG a l v = (vz, 2) := by
  obtain ⟨h1, h2, h3, h4, h5⟩ := putG_ok h
  obtain ⟨c, hc, hd⟩ := put_again (right_ev h1) (ask_ev h2) h4 v
  rw [putG_mk h5 h2 h1, hc]
  simp only [caughtF]
  by_cases hr : rightB c = true
  · refine .inl ⟨c, by rw [if_pos hr], ?_⟩
    rw [putG_mk hr h2 h3, hd]
    simp only [caughtF]
    rw [if_pos h5]
  · exact .inr (by rw [if_neg hr])
theorem back_right {v x a : Val} {l : List Val} (h : putG v l x = (a, 0)) : rightB a = true := (putG_ok h).2.2.2.2
end Go.Proofs.YtmbgaaoneaplmaaDoor
