/- Walks: paths.caught, whole; the closure of paths.Put. -/
import Derived.Test.YtmbgaaoneaplmaaDoorE4
import Derived.Test.YtmbgaaoneaplmaaDoorD14
namespace Go.Proofs.YtmbgaaoneaplmaaDoor
open Go.RowKit

/-- paths.caught, of a closure that ends as a put does. -/
theorem caught_calls (g : Nat) (caps : Array Value) (r : Option Val) (ok ok' : Nat → Prop) (w : World) (hcf : ∀ W : World, (callFunc g caps).run Tryd.prog W = .ok (.enter g caps) W) (hT : Lib.Utf8Tabs 1 2 w) (hok : ∀ k, ok k → k < w.heap.size) (hok' : ∀ k, w.heap.size ≤ k → ok' k)
    (h : Calls Tryd.prog g caps (two0 w) (PutR ok r (two0 w))) :
    Calls Tryd.prog 43 #[.func (.func g) #[] caps] w (RetV2 ok' (caughtF r).1 (.int .i64 (caughtF r).2) w) := by
  cases r with
  | none => exact caught_none g caps ok' w hcf h
  | some y =>
    cases hr : rightB y with
    | true =>
      have he : caughtF (some y) = (y, 0) := by simp only [caughtF, hr, if_pos]
      rw [he]
      exact caught_yes g caps y ok ok' w hcf hT hok hok' hr h
    | false =>
      have he : caughtF (some y) = (vz, 2) := by simp only [caughtF, hr, Bool.false_eq_true, if_false]
      rw [he]
      exact caught_no g caps y ok ok' w hcf hT hok hr h

set_option maxHeartbeats 1000000 in
set_option maxRecDepth 100000 in
theorem put1_none (b1 b2 b3 : Nat) (v x : Val) (l : List Val) (ok : Nat → Prop) (A B D : Option Addr) (c m d p : Nat) (w : World) (h1 : BoxAt w b1 v.k v.n v.t A v.is.length c) (h2 : w.cell? ⟨b2, 0, none⟩ = some (.slice B m d)) (h3 : BoxAt w b3 x.k x.n x.t D x.is.length p)
    (hv : Sl w ok v.is A v.is.length c) (hvt : v.t.size ≤ big) (hl : Sl w ok l B m d) (hx : Sl w ok x.is D x.is.length p) (hxt : x.t.size ≤ big) (hev : EvV v) (hel : EvL l) (hr : putF v l x = none) :
    Calls Tryd.prog 44 #[.pointer (some ⟨b1, 0, none⟩), .pointer (some ⟨b2, 0, none⟩), .pointer (some ⟨b3, 0, none⟩)] w fun e w' => e = .panicked [{ v := .iface 122 (.agg #[.int .i64 260]), recovered := false }] ∧ Below w.heap.size w w' := by
  have hb1 := h1.lt
  have hb2 : b2 < w.heap.size := World.block_lt_of_cell? w ⟨b2, 0, none⟩ h2
  have hb3 := h3.lt
  replace hr := Lib.hid hr
  obtain ⟨a0, a1, a2, a3⟩ := h1
  obtain ⟨x0, x1, x2, x3⟩ := h3
  go_enter Tryd.func44, Tryd.ntmps44
  go_wp2_with fail
  refine (put_all l v x ok _ _ _ _ _ _ _ _ (Sl_bl hv ((Bl.refl _).al _)) hvt (Sl_bl hl ((Bl.refl _).al _)) (Sl_bl hx ((Bl.refl _).al _)) hxt hev hel).mono ?_
  rintro e w1 hR
  rw [hr.out] at hR
  obtain ⟨rfl, hb⟩ := hR
  go_wp2
  exact ⟨rfl, rfl, ((Bl.refl _).al _).call hb⟩

set_option maxHeartbeats 1000000 in
set_option maxRecDepth 100000 in
theorem put1_some (b1 b2 b3 : Nat) (v x y : Val) (l : List Val) (ok : Nat → Prop) (A B D : Option Addr) (c m d p : Nat) (w : World) (h1 : BoxAt w b1 v.k v.n v.t A v.is.length c) (h2 : w.cell? ⟨b2, 0, none⟩ = some (.slice B m d)) (h3 : BoxAt w b3 x.k x.n x.t D x.is.length p)
    (hv : Sl w ok v.is A v.is.length c) (hvt : v.t.size ≤ big) (hl : Sl w ok l B m d) (hx : Sl w ok x.is D x.is.length p) (hxt : x.t.size ≤ big) (hev : EvV v) (hel : EvL l) (hok : ∀ k, ok k → k < w.heap.size) (hr : putF v l x = some y) :
    Calls Tryd.prog 44 #[.pointer (some ⟨b1, 0, none⟩), .pointer (some ⟨b2, 0, none⟩), .pointer (some ⟨b3, 0, none⟩)] w (RetV (fun k => ok k ∨ w.heap.size ≤ k) y w) := by
  have hb1 := h1.lt
  have hb2 : b2 < w.heap.size := World.block_lt_of_cell? w ⟨b2, 0, none⟩ h2
  have hb3 := h3.lt
  replace hr := Lib.hid hr
  obtain ⟨a0, a1, a2, a3⟩ := h1
  obtain ⟨x0, x1, x2, x3⟩ := h3
  go_enter Tryd.func44, Tryd.ntmps44
  go_wp2_with fail
  refine (put_all l v x ok _ _ _ _ _ _ _ _ (Sl_bl hv ((Bl.refl _).al _)) hvt (Sl_bl hl ((Bl.refl _).al _)) (Sl_bl hx ((Bl.refl _).al _)) hxt hev hel).mono ?_
  rintro e w1 hR
  rw [hr.out] at hR
  obtain ⟨v1, rfl, ⟨A1, c1, rfl, ht1, S1⟩, hb⟩ := hR
  have hV := (VarAt.new w 0 0 ⟨#[]⟩ none 0 0 24).later hb
  have HV := Lib.hid hV
  have hB1 : Below w.heap.size w w1 := ((Bl.refl _).al _).call hb
  obtain ⟨⟨z0, z1, z2, z3⟩, f0, f1, f2, f3⟩ := hV
  go_wp2
  obtain ⟨q0, q1, q2, q3⟩ := (set4_var (k := y.k) (n := y.n) (t := y.t) (A := A1) (m := y.is.length) (c := c1) HV.out).1
  change bodyPost _ _ _ _ _ (set4 w1 w.heap.size y.k y.n y.t A1 y.is.length c1)
  refine bodyPost_ret (v := .agg #[.int .i64 y.k, .int .i64 y.n, .string y.t, .slice A1 y.is.length c1]) (by simp [results, Tryd.results44, go_sem, q0, q1, q2, q3]) rfl ⟨_, rfl, ?_, set4_below hB1 (by omega)⟩
  have S2 : Sl w1 (fun k => ok k ∨ w.heap.size + 1 ≤ k) y.is A1 y.is.length c1 := Sl_mono S1 (fun k hk _ => by rw [World.size_alloc] at hk; exact hk)
  exact ((IsV.at ht1 S2).set4 (fun h => by rcases h with h | h; exact absurd (hok _ h) (by omega); omega) _ _ _ _ _ _).mono (fun k hk _ => by rcases hk with hk | hk; exact .inl hk; exact .inr (by omega))

theorem put1_calls (b1 b2 b3 : Nat) (v x : Val) (l : List Val) (ok : Nat → Prop) (A B D : Option Addr) (c m d p : Nat) (w : World) (h1 : BoxAt w b1 v.k v.n v.t A v.is.length c) (h2 : w.cell? ⟨b2, 0, none⟩ = some (.slice B m d)) (h3 : BoxAt w b3 x.k x.n x.t D x.is.length p)
    (hv : Sl w ok v.is A v.is.length c) (hvt : v.t.size ≤ big) (hl : Sl w ok l B m d) (hx : Sl w ok x.is D x.is.length p) (hxt : x.t.size ≤ big) (hev : EvV v) (hel : EvL l) (hok : ∀ k, ok k → k < w.heap.size) :
    Calls Tryd.prog 44 #[.pointer (some ⟨b1, 0, none⟩), .pointer (some ⟨b2, 0, none⟩), .pointer (some ⟨b3, 0, none⟩)] w (PutR ok (putF v l x) w) := by
  cases hr : putF v l x with
  | none => exact put1_none b1 b2 b3 v x l ok A B D c m d p w h1 h2 h3 hv hvt hl hx hxt hev hel hr
  | some y => exact put1_some b1 b2 b3 v x y l ok A B D c m d p w h1 h2 h3 hv hvt hl hx hxt hev hel hok hr
end Go.Proofs.YtmbgaaoneaplmaaDoor
