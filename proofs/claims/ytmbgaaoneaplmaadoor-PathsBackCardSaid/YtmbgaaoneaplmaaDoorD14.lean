/- Walks: paths.put, whole. -/
import Derived.Test.YtmbgaaoneaplmaaDoorD7
import Derived.Test.YtmbgaaoneaplmaaDoorD8
import Derived.Test.YtmbgaaoneaplmaaDoorD9
import Derived.Test.YtmbgaaoneaplmaaDoorD10
import Derived.Test.YtmbgaaoneaplmaaDoorD11
import Derived.Test.YtmbgaaoneaplmaaDoorD12
import Derived.Test.YtmbgaaoneaplmaaDoorD13
namespace Go.Proofs.YtmbgaaoneaplmaaDoor
open Go.RowKit

/-- paths.put. -/
theorem put_all : ∀ l : List Val, PutC l := by
  intro l
  induction l with
  | nil => exact put_nil
  | cons s r ih =>
    intro v x ok A B D c m d p w hv hvt hl hx hxt hev hel
    simp only [EvL] at hel
    unfold putF
    by_cases h4 : v.k = 4
    · rw [if_pos h4]
      cases hi : idxOk v.is.length s.k s.n with
      | true =>
        rw [if_pos rfl]
        cases hp : putF (partF v s).1 r x with
        | none => exact put_list_hit_none s r v x ok A B D c m d p w hv hl ih hx hxt hev hel.1 hel.2 h4 hi hp
        | some y => exact put_list_hit_some s r v x ok A B D c m d p w hv hl ih hx hxt hev hel.1 hel.2 h4 hi y hp
      | false =>
        rw [if_neg (by decide)]
        by_cases hn : s.k = 2 ∧ s.n = v.is.length
        · rw [if_pos hn]
          cases hp : putF (partF v s).1 r x with
          | none => exact put_list_app_none s r v x ok A B D c m d p w hv hl ih hx hxt hev hel.1 hel.2 h4 hi hn.1 hn.2 hp
          | some y => exact put_list_app_some s r v x ok A B D c m d p w hv hl ih hx hxt hev hel.1 hel.2 h4 hi hn.1 hn.2 y hp
        · rw [if_neg hn]
          exact put_list_no s r v x ok A B D c m d p w hv hl h4 hi hn
    · rw [if_neg h4]
      by_cases h6 : v.k = 0 ∨ v.k = 6
      · rw [if_pos h6]
        cases hp : putF (partF v s).1 r x with
        | none => exact put_map_none s r v x ok A B D c m d p w hv hl ih hx hxt hev hel.1 hel.2 h6 hp
        | some y =>
          cases hk : keyF v.is s 0 with
          | mk i b =>
            cases b with
            | true =>
              simp only [Option.map_some, if_pos]
              exact put_map_hit s r v x ok A B D c m d p w hv hl ih hx hxt hev hel.1 hel.2 h6 y hp i (Lib.hid hk)
            | false =>
              simp only [Option.map_some, Bool.false_eq_true, if_false]
              exact put_map_miss s r v x ok A B D c m d p w hv hl ih hx hxt hev hel.1 hel.2 h6 y hp i (Lib.hid hk)
      · rw [if_neg h6]
        exact put_other s r v x ok A B D c m d p w hv hl (by omega)
end Go.Proofs.YtmbgaaoneaplmaaDoor
