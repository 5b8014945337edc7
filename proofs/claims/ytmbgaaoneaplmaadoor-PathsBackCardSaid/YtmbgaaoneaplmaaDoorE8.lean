/- Walks: plain values: a number, a text, equality in all fields. -/
import Derived.Test.YtmbgaaoneaplmaaDoorE7
namespace Go.Proofs.YtmbgaaoneaplmaaDoor
open Go.RowKit

theorem int_calls (n : Int) (ok : Nat → Prop) (w : World) : Calls Tryd.prog 18 #[.int .i64 n] w (RetV ok ⟨2, n, ⟨#[]⟩, []⟩ w) := by
  go_enter Tryd.func18, Tryd.ntmps18
  go_wp2
  refine bodyPost_ret (v := .agg #[.int .i64 2, .int .i64 n, .string ⟨#[]⟩, .slice none 0 0]) (by simp [results, Tryd.results18, go_sem]) rfl ⟨_, rfl, IsV.mk (by decide) (Sl_nil _ _), (Bl.refl _).al _⟩
theorem text_calls (t : ByteArray) (ht : t.size ≤ big) (ok : Nat → Prop) (w : World) : Calls Tryd.prog 50 #[.string t] w (RetV ok ⟨3, 0, t, []⟩ w) := by
  go_enter Tryd.func50, Tryd.ntmps50
  go_wp2
  refine bodyPost_ret (v := .agg #[.int .i64 3, .int .i64 0, .string t, .slice none 0 0]) (by simp [results, Tryd.results50, go_sem]) rfl ⟨_, rfl, IsV.mk ht (Sl_nil _ _), (Bl.refl _).al _⟩
end Go.Proofs.YtmbgaaoneaplmaaDoor
