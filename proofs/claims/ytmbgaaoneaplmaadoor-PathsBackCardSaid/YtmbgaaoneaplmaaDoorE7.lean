/- Walks: paths.Put, whole. -/
import Derived.Test.YtmbgaaoneaplmaaDoorE6
namespace Go.Proofs.YtmbgaaoneaplmaaDoor
open Go.RowKit

/-- paths.Put. -/
theorem put_calls (v x : Val) (l : List Val) (ok ok' : Nat → Prop) (A B D : Option Addr) (c m d p : Nat) (w : World) (hT : Lib.Utf8Tabs 1 2 w) (hv : Sl w ok v.is A v.is.length c) (hvt : v.t.size ≤ big) (hl : Sl w ok l B m d) (hx : Sl w ok x.is D x.is.length p) (hxt : x.t.size ≤ big) (hok : ∀ k, w.heap.size ≤ k → ok' k) :
    Calls Tryd.prog 11 #[.agg #[.int .i64 v.k, .int .i64 v.n, .string v.t, .slice A v.is.length c], .slice B m d, .agg #[.int .i64 x.k, .int .i64 x.n, .string x.t, .slice D x.is.length p]] w (RetV2 ok' (putG v l x).1 (.int .i64 (putG v l x).2) w) := by
  cases hr : rightB v with
  | false =>
    have he : putG v l x = (vz, 3) := by unfold putG; rw [if_pos hr]
    rw [he]
    exact put_wrong v x ok ok' A B D c m d p w hT hv hvt hr
  | true =>
    by_cases ha : askF l = 0
    · cases hy : rightB x with
      | false =>
        have he : putG v l x = (vz, 3) := by unfold putG; rw [if_neg (by rw [hr]; decide), if_neg (by rw [ha]; decide), if_pos hy]
        rw [he]
        exact put_new_wrong v x l ok ok' A B D c m d p w hT hv hvt hl hx hxt hr ha hy
      | true =>
        have he : putG v l x = caughtF (putF v l x) := by unfold putG; rw [if_neg (by rw [hr]; decide), if_neg (by rw [ha]; decide), if_neg (by rw [hy]; decide)]
        rw [he]
        exact put_goes v x l ok ok' A B D c m d p w hT hv hvt hl hx hxt hok hr ha hy
    · have he : putG v l x = (vz, askF l) := by unfold putG; rw [if_neg (by rw [hr]; decide), if_pos ha]
      rw [he]
      exact put_asked v x l ok ok' A B D c m d p w hT hv hvt hl hr ha
end Go.Proofs.YtmbgaaoneaplmaaDoor
