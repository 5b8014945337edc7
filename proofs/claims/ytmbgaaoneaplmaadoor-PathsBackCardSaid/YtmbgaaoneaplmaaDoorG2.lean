/- Walks: PathsBack. -/
import Derived.Test.YtmbgaaoneaplmaaDoorG1
import Derived.Test.YtmbgaaoneaplmaaDoorF3
namespace Go.Proofs.YtmbgaaoneaplmaaDoor
open Go.RowKit

/-- What a law's walk ends in. -/
abbrev Says (w : World) : Ending → World → Prop := fun e w' => e = .returned (.bool true) ∧ Below w.heap.size w w'

/-- Put, of what is known of its answer. -/
theorem put_is {y : Val} {e : Int} (v x : Val) (l : List Val) (ok : Nat → Prop) (A B D : Option Addr) (c m d p : Nat) (w : World) (hT : Lib.Utf8Tabs 1 2 w) (hv : Sl w ok v.is A v.is.length c) (hvt : v.t.size ≤ big) (hl : Sl w ok l B m d) (hx : Sl w ok x.is D x.is.length p) (hxt : x.t.size ≤ big) (hr : putG v l x = (y, e)) :
    Calls Tryd.prog 11 #[.agg #[.int .i64 v.k, .int .i64 v.n, .string v.t, .slice A v.is.length c], .slice B m d, .agg #[.int .i64 x.k, .int .i64 x.n, .string x.t, .slice D x.is.length p]] w fun en w' =>
      ∃ A' c', en = .returned (.tuple #[.agg #[.int .i64 y.k, .int .i64 y.n, .string y.t, .slice A' y.is.length c'], .int .i64 e]) ∧ y.t.size ≤ big ∧ Sl w' (fun _ => True) y.is A' y.is.length c' ∧ Below w.heap.size w w' := by
  have := put_calls v x l ok (fun _ => True) A B D c m d p w hT hv hvt hl hx hxt (fun _ _ => trivial)
  rw [hr] at this
  refine this.mono ?_
  rintro en w' ⟨u, rfl, ⟨A', c', rfl, ht, hS⟩, hb⟩
  exact ⟨A', c', rfl, ht, hS, hb⟩
theorem get_is {y : Val} {b : Bool} {e : Int} (v : Val) (l : List Val) (ok : Nat → Prop) (A B : Option Addr) (c m d : Nat) (w : World) (hT : Lib.Utf8Tabs 1 2 w) (hv : Sl w ok v.is A v.is.length c) (hvt : v.t.size ≤ big) (hl : Sl w ok l B m d) (hr : getF v l = (y, b, e)) :
    Calls Tryd.prog 15 #[.agg #[.int .i64 v.k, .int .i64 v.n, .string v.t, .slice A v.is.length c], .slice B m d] w fun en w' =>
      ∃ A' c', en = .returned (.tuple #[.agg #[.int .i64 y.k, .int .i64 y.n, .string y.t, .slice A' y.is.length c'], .bool b, .int .i64 e]) ∧ y.t.size ≤ big ∧ Sl w' (fun _ => True) y.is A' y.is.length c' ∧ Below w.heap.size w w' := by
  have := get_calls v l ok (fun _ => True) A B c m d w hT hv hvt hl (fun _ _ => trivial)
  rw [hr] at this
  refine this.mono ?_
  rintro en w' ⟨u, rfl, ⟨A', c', rfl, ht, hS⟩, hb⟩
  exact ⟨A', c', rfl, ht, hS, hb⟩
theorem veq_is (x : Val) (ok ok' : Nat → Prop) (A B : Option Addr) (c d : Nat) (w : World) (hx : Sl w ok x.is A x.is.length c) (hy : Sl w ok' x.is B x.is.length d) :
    Calls Tryd.prog 13 #[.agg #[.int .i64 x.k, .int .i64 x.n, .string x.t, .slice A x.is.length c], .agg #[.int .i64 x.k, .int .i64 x.n, .string x.t, .slice B x.is.length d]] w fun e w' => e = .returned (.bool true) ∧ Below w.heap.size w w' := by
  have := veq_at x x ok ok' A B c d w hx hy
  rwa [veq_self] at this

set_option maxHeartbeats 4000000 in
set_option maxRecDepth 100000 in
theorem back_refused (v x y : Val) (e : Int) (l : List Val) (A B D : Option Addr) (c m d p : Nat) (w : World) (hT : Lib.Utf8Tabs 1 2 w) (hv : Sl w (fun _ => True) v.is A v.is.length c) (hvt : v.t.size ≤ big) (hl : Sl w (fun _ => True) l B m d) (hx : Sl w (fun _ => True) x.is D x.is.length p) (hxt : x.t.size ≤ big) (hr : putG v l x = (y, e)) (he : (e != 0) = true) :
    Calls Tryd.prog 4 #[.agg #[.int .i64 v.k, .int .i64 v.n, .string v.t, .slice A v.is.length c], .slice B m d, .agg #[.int .i64 x.k, .int .i64 x.n, .string x.t, .slice D x.is.length p]] w (Says w) := by
  have HT := Lib.hid hT
  have HR := Lib.hid hr
  clear hT hr
  go_enter Tryd.func4, Tryd.ntmps4
  go_wp2_with fail
  refine (put_is v x l (fun _ => True) _ _ _ _ _ _ _ _ (Utf8Tabs_below HT.out (((Bl.refl _).al _).al _)) (Sl_bl hv (((Bl.refl _).al _).al _)) hvt (Sl_bl hl (((Bl.refl _).al _).al _)) (Sl_bl hx (((Bl.refl _).al _).al _)) hxt HR.out).mono ?_
  rintro en w1 ⟨A1, c1, rfl, _, _, hb⟩
  have hB := (((Bl.refl w).al _).al _).call hb
  go_wp2_with fail
  refine (speaks_calls _ (Utf8Tabs_below HT.out (hB.al _))).mono ?_
  rintro en w2 ⟨rfl, hb2⟩
  go_wp2
  go_ret
  exact ⟨rfl, (hB.al _).call hb2⟩

set_option maxHeartbeats 4000000 in
set_option maxRecDepth 100000 in
theorem back_long (v x a Y : Val) (l : List Val) (A B D : Option Addr) (c m d p : Nat) (w : World) (hT : Lib.Utf8Tabs 1 2 w) (hv : Sl w (fun _ => True) v.is A v.is.length c) (hvt : v.t.size ≤ big) (hl : Sl w (fun _ => True) l B m d) (hx : Sl w (fun _ => True) x.is D x.is.length p) (hxt : x.t.size ≤ big) (hr : putG v l x = (a, 0)) (hr2 : putG a l v = (Y, 2)) :
    Calls Tryd.prog 4 #[.agg #[.int .i64 v.k, .int .i64 v.n, .string v.t, .slice A v.is.length c], .slice B m d, .agg #[.int .i64 x.k, .int .i64 x.n, .string x.t, .slice D x.is.length p]] w (Says w) := by
  have hg := Lib.hid (back_get hr)
  have hra := Lib.hid (back_right hr)
  have HT := Lib.hid hT
  have HR := Lib.hid hr
  have HR2 := Lib.hid hr2
  clear hT hr hr2
  have b3 := Lib.hid ((BoxAt.new w v.k v.n v.t A v.is.length c 24).later ((Bl.refl _).al (.cells #[.int .i64 x.k, .int .i64 x.n, .string x.t, .slice D x.is.length p] 24)))
  have b5 := Lib.hid (BoxAt.new (w.alloc (.cells #[.int .i64 v.k, .int .i64 v.n, .string v.t, .slice A v.is.length c] 24)) x.k x.n x.t D x.is.length p 24)
  go_enter Tryd.func4, Tryd.ntmps4
  go_wp2_with fail
  refine (put_is v x l (fun _ => True) _ _ _ _ _ _ _ _ (Utf8Tabs_below HT.out (((Bl.refl _).al _).al _)) (Sl_bl hv (((Bl.refl _).al _).al _)) hvt (Sl_bl hl (((Bl.refl _).al _).al _)) (Sl_bl hx (((Bl.refl _).al _).al _)) hxt HR.out).mono ?_
  rintro en w1 ⟨A1, c1, rfl, hat, S1, hb⟩
  have hB1 := (((Bl.refl w).al (.cells #[.int .i64 v.k, .int .i64 v.n, .string v.t, .slice A v.is.length c] 24)).al (.cells #[.int .i64 x.k, .int .i64 x.n, .string x.t, .slice D x.is.length p] 24)).call hb
  replace b3 := Lib.hid (b3.out.later hb)
  replace b5 := Lib.hid (b5.out.later hb)
  clear hb
  have b7 := Lib.hid (BoxAt.new w1 a.k a.n a.t A1 a.is.length c1 24)
  go_wp2_with fail
  have hB2 := hB1.al (.cells #[.int .i64 a.k, .int .i64 a.n, .string a.t, .slice A1 a.is.length c1] 24)
  refine (get_is a l (fun _ => True) _ _ _ _ _ _ (Utf8Tabs_below HT.out hB2) (Sl_bl S1 ((Bl.refl _).al _)) hat (Sl_bl hl hB2) hg.out).mono ?_
  rintro en w3 ⟨A3, c3, rfl, _, S3, hb⟩
  replace b3 := Lib.hid ((b3.out.later ((Bl.refl _).al (.cells #[.int .i64 a.k, .int .i64 a.n, .string a.t, .slice A1 a.is.length c1] 24))).later hb)
  replace b5 := Lib.hid ((b5.out.later ((Bl.refl _).al (.cells #[.int .i64 a.k, .int .i64 a.n, .string a.t, .slice A1 a.is.length c1] 24))).later hb)
  replace b7 := Lib.hid (b7.out.later hb)
  replace S1 := Sl_bl S1 (((Bl.refl _).al (.cells #[.int .i64 a.k, .int .i64 a.n, .string a.t, .slice A1 a.is.length c1] 24)).call hb)
  have hB3 := hB2.call hb
  clear hb
  have b9 := Lib.hid (BoxAt.new w3 x.k x.n x.t A3 x.is.length c3 24)
  simp only [World.size_alloc] at b5
  have l1 := b7.out.lt
  have l3 := b3.out.lt
  have l5 := b5.out.lt
  obtain ⟨z0, z1, z2, z3⟩ := b3.out
  obtain ⟨y0, y1, y2, y3⟩ := b5.out
  obtain ⟨x0, x1, x2, x3⟩ := b7.out
  go_wp2_with fail
  clear z0 z1 z2 z3 y0 y1 y2 y3 x0 x1 x2 x3
  have hB4 := hB3.al (.cells #[.int .i64 x.k, .int .i64 x.n, .string x.t, .slice A3 x.is.length c3] 24)
  refine (put_is a v l (fun _ => True) _ _ _ _ _ _ _ _ (Utf8Tabs_below HT.out hB4) (Sl_bl S1 ((Bl.refl _).al _)) hat (Sl_bl hl hB4) (Sl_bl hv hB4) hvt HR2.out).mono ?_
  rintro en w5 ⟨A5, c5, rfl, hct, S5, hb⟩
  replace b3 := Lib.hid ((b3.out.later ((Bl.refl _).al (.cells #[.int .i64 x.k, .int .i64 x.n, .string x.t, .slice A3 x.is.length c3] 24))).later hb)
  replace b5 := Lib.hid ((b5.out.later ((Bl.refl _).al (.cells #[.int .i64 x.k, .int .i64 x.n, .string x.t, .slice A3 x.is.length c3] 24))).later hb)
  replace b7 := Lib.hid ((b7.out.later ((Bl.refl _).al (.cells #[.int .i64 x.k, .int .i64 x.n, .string x.t, .slice A3 x.is.length c3] 24))).later hb)
  replace b9 := Lib.hid (b9.out.later hb)
  replace S1 := Sl_bl S1 (((Bl.refl _).al (.cells #[.int .i64 x.k, .int .i64 x.n, .string x.t, .slice A3 x.is.length c3] 24)).call hb)
  replace S3 := Sl_bl S3 (((Bl.refl _).al (.cells #[.int .i64 x.k, .int .i64 x.n, .string x.t, .slice A3 x.is.length c3] 24)).call hb)
  have hB5 := hB4.call hb
  clear hb
  have b12 := Lib.hid (BoxAt.new w5 Y.k Y.n Y.t A5 Y.is.length c5 24)
  replace l1 := b7.out.lt
  replace l3 := b3.out.lt
  replace l5 := b5.out.lt
  have l9 := b9.out.lt
  obtain ⟨y0, y1, y2, y3⟩ := b5.out
  obtain ⟨x0, x1, x2, x3⟩ := b7.out
  obtain ⟨v0, v1, v2, v3⟩ := b9.out
  go_wp2_with fail
  clear y0 y1 y2 y3 x0 x1 x2 x3 v0 v1 v2 v3
  have hB6 := hB5.al (.cells #[.int .i64 Y.k, .int .i64 Y.n, .string Y.t, .slice A5 Y.is.length c5] 24)
  refine (veq_is x (fun _ => True) (fun _ => True) _ _ _ _ _ (Sl_bl S3 ((Bl.refl _).al _)) (Sl_bl hx hB6)).mono ?_
  rintro en w7 ⟨rfl, hb⟩
  replace b3 := Lib.hid ((b3.out.later ((Bl.refl _).al (.cells #[.int .i64 Y.k, .int .i64 Y.n, .string Y.t, .slice A5 Y.is.length c5] 24))).later hb)
  replace b5 := Lib.hid ((b5.out.later ((Bl.refl _).al (.cells #[.int .i64 Y.k, .int .i64 Y.n, .string Y.t, .slice A5 Y.is.length c5] 24))).later hb)
  replace b7 := Lib.hid ((b7.out.later ((Bl.refl _).al (.cells #[.int .i64 Y.k, .int .i64 Y.n, .string Y.t, .slice A5 Y.is.length c5] 24))).later hb)
  replace b12 := Lib.hid (b12.out.later hb)
  replace S1 := Sl_bl S1 (((Bl.refl _).al (.cells #[.int .i64 Y.k, .int .i64 Y.n, .string Y.t, .slice A5 Y.is.length c5] 24)).call hb)
  replace S5 := Sl_bl S5 (((Bl.refl _).al (.cells #[.int .i64 Y.k, .int .i64 Y.n, .string Y.t, .slice A5 Y.is.length c5] 24)).call hb)
  have hB7 := hB6.call hb
  clear hb
  obtain ⟨x0, x1, x2, x3⟩ := b7.out
  go_wp2_with fail
  clear x0 x1 x2 x3
  refine (check_yes a (fun _ => True) _ _ _ (Utf8Tabs_below HT.out hB7) hat S1 hra.out).mono ?_
  rintro en w8 ⟨rfl, hb⟩
  replace b3 := Lib.hid (b3.out.later hb)
  replace b5 := Lib.hid (b5.out.later hb)
  replace b7 := Lib.hid (b7.out.later hb)
  replace b12 := Lib.hid (b12.out.later hb)
  replace S1 := Sl_bl S1 hb
  replace S5 := Sl_bl S5 hb
  have hB8 := hB7.call hb
  clear hb
  go_wp2_with fail
  refine (speaks_calls _ (Utf8Tabs_below HT.out hB8)).mono ?_
  rintro en w9 ⟨rfl, hb⟩
  go_wp2
  go_ret
  exact ⟨rfl, hB8.call hb⟩

set_option maxHeartbeats 4000000 in
set_option maxRecDepth 100000 in
theorem back_full (v x a Y : Val) (l : List Val) (A B D : Option Addr) (c m d p : Nat) (w : World) (hT : Lib.Utf8Tabs 1 2 w) (hv : Sl w (fun _ => True) v.is A v.is.length c) (hvt : v.t.size ≤ big) (hl : Sl w (fun _ => True) l B m d) (hx : Sl w (fun _ => True) x.is D x.is.length p) (hxt : x.t.size ≤ big) (hr : putG v l x = (a, 0)) (hr2 : putG a l v = (Y, 0)) (hr3 : putG Y l x = (a, 0)) :
    Calls Tryd.prog 4 #[.agg #[.int .i64 v.k, .int .i64 v.n, .string v.t, .slice A v.is.length c], .slice B m d, .agg #[.int .i64 x.k, .int .i64 x.n, .string x.t, .slice D x.is.length p]] w (Says w) := by
  have hg := Lib.hid (back_get hr)
  have hra := Lib.hid (back_right hr)
  have HT := Lib.hid hT
  have HR := Lib.hid hr
  have HR2 := Lib.hid hr2
  have HR3 := Lib.hid hr3
  clear hT hr hr2 hr3
  have b3 := Lib.hid ((BoxAt.new w v.k v.n v.t A v.is.length c 24).later ((Bl.refl _).al (.cells #[.int .i64 x.k, .int .i64 x.n, .string x.t, .slice D x.is.length p] 24)))
  have b5 := Lib.hid (BoxAt.new (w.alloc (.cells #[.int .i64 v.k, .int .i64 v.n, .string v.t, .slice A v.is.length c] 24)) x.k x.n x.t D x.is.length p 24)
  go_enter Tryd.func4, Tryd.ntmps4
  go_wp2_with fail
  refine (put_is v x l (fun _ => True) _ _ _ _ _ _ _ _ (Utf8Tabs_below HT.out (((Bl.refl _).al _).al _)) (Sl_bl hv (((Bl.refl _).al _).al _)) hvt (Sl_bl hl (((Bl.refl _).al _).al _)) (Sl_bl hx (((Bl.refl _).al _).al _)) hxt HR.out).mono ?_
  rintro en w1 ⟨A1, c1, rfl, hat, S1, hb⟩
  have hB1 := (((Bl.refl w).al (.cells #[.int .i64 v.k, .int .i64 v.n, .string v.t, .slice A v.is.length c] 24)).al (.cells #[.int .i64 x.k, .int .i64 x.n, .string x.t, .slice D x.is.length p] 24)).call hb
  replace b3 := Lib.hid (b3.out.later hb)
  replace b5 := Lib.hid (b5.out.later hb)
  clear hb
  have b7 := Lib.hid (BoxAt.new w1 a.k a.n a.t A1 a.is.length c1 24)
  go_wp2_with fail
  have hB2 := hB1.al (.cells #[.int .i64 a.k, .int .i64 a.n, .string a.t, .slice A1 a.is.length c1] 24)
  refine (get_is a l (fun _ => True) _ _ _ _ _ _ (Utf8Tabs_below HT.out hB2) (Sl_bl S1 ((Bl.refl _).al _)) hat (Sl_bl hl hB2) hg.out).mono ?_
  rintro en w3 ⟨A3, c3, rfl, _, S3, hb⟩
  replace b3 := Lib.hid ((b3.out.later ((Bl.refl _).al (.cells #[.int .i64 a.k, .int .i64 a.n, .string a.t, .slice A1 a.is.length c1] 24))).later hb)
  replace b5 := Lib.hid ((b5.out.later ((Bl.refl _).al (.cells #[.int .i64 a.k, .int .i64 a.n, .string a.t, .slice A1 a.is.length c1] 24))).later hb)
  replace b7 := Lib.hid (b7.out.later hb)
  replace S1 := Sl_bl S1 (((Bl.refl _).al (.cells #[.int .i64 a.k, .int .i64 a.n, .string a.t, .slice A1 a.is.length c1] 24)).call hb)
  have hB3 := hB2.call hb
  clear hb
  have b9 := Lib.hid (BoxAt.new w3 x.k x.n x.t A3 x.is.length c3 24)
  simp only [World.size_alloc] at b5
  have l1 := b7.out.lt
  have l3 := b3.out.lt
  have l5 := b5.out.lt
  obtain ⟨z0, z1, z2, z3⟩ := b3.out
  obtain ⟨y0, y1, y2, y3⟩ := b5.out
  obtain ⟨x0, x1, x2, x3⟩ := b7.out
  go_wp2_with fail
  clear z0 z1 z2 z3 y0 y1 y2 y3 x0 x1 x2 x3
  have hB4 := hB3.al (.cells #[.int .i64 x.k, .int .i64 x.n, .string x.t, .slice A3 x.is.length c3] 24)
  refine (put_is a v l (fun _ => True) _ _ _ _ _ _ _ _ (Utf8Tabs_below HT.out hB4) (Sl_bl S1 ((Bl.refl _).al _)) hat (Sl_bl hl hB4) (Sl_bl hv hB4) hvt HR2.out).mono ?_
  rintro en w5 ⟨A5, c5, rfl, hct, S5, hb⟩
  replace b3 := Lib.hid ((b3.out.later ((Bl.refl _).al (.cells #[.int .i64 x.k, .int .i64 x.n, .string x.t, .slice A3 x.is.length c3] 24))).later hb)
  replace b5 := Lib.hid ((b5.out.later ((Bl.refl _).al (.cells #[.int .i64 x.k, .int .i64 x.n, .string x.t, .slice A3 x.is.length c3] 24))).later hb)
  replace b7 := Lib.hid ((b7.out.later ((Bl.refl _).al (.cells #[.int .i64 x.k, .int .i64 x.n, .string x.t, .slice A3 x.is.length c3] 24))).later hb)
  replace b9 := Lib.hid (b9.out.later hb)
  replace S1 := Sl_bl S1 (((Bl.refl _).al (.cells #[.int .i64 x.k, .int .i64 x.n, .string x.t, .slice A3 x.is.length c3] 24)).call hb)
  replace S3 := Sl_bl S3 (((Bl.refl _).al (.cells #[.int .i64 x.k, .int .i64 x.n, .string x.t, .slice A3 x.is.length c3] 24)).call hb)
  have hB5 := hB4.call hb
  clear hb
  have b12 := Lib.hid (BoxAt.new w5 Y.k Y.n Y.t A5 Y.is.length c5 24)
  replace l1 := b7.out.lt
  replace l3 := b3.out.lt
  replace l5 := b5.out.lt
  have l9 := b9.out.lt
  obtain ⟨y0, y1, y2, y3⟩ := b5.out
  obtain ⟨x0, x1, x2, x3⟩ := b7.out
  obtain ⟨v0, v1, v2, v3⟩ := b9.out
  go_wp2_with fail
  clear y0 y1 y2 y3 x0 x1 x2 x3 v0 v1 v2 v3
  have hB6 := hB5.al (.cells #[.int .i64 Y.k, .int .i64 Y.n, .string Y.t, .slice A5 Y.is.length c5] 24)
  refine (veq_is x (fun _ => True) (fun _ => True) _ _ _ _ _ (Sl_bl S3 ((Bl.refl _).al _)) (Sl_bl hx hB6)).mono ?_
  rintro en w7 ⟨rfl, hb⟩
  replace b3 := Lib.hid ((b3.out.later ((Bl.refl _).al (.cells #[.int .i64 Y.k, .int .i64 Y.n, .string Y.t, .slice A5 Y.is.length c5] 24))).later hb)
  replace b5 := Lib.hid ((b5.out.later ((Bl.refl _).al (.cells #[.int .i64 Y.k, .int .i64 Y.n, .string Y.t, .slice A5 Y.is.length c5] 24))).later hb)
  replace b7 := Lib.hid ((b7.out.later ((Bl.refl _).al (.cells #[.int .i64 Y.k, .int .i64 Y.n, .string Y.t, .slice A5 Y.is.length c5] 24))).later hb)
  replace b12 := Lib.hid (b12.out.later hb)
  replace S1 := Sl_bl S1 (((Bl.refl _).al (.cells #[.int .i64 Y.k, .int .i64 Y.n, .string Y.t, .slice A5 Y.is.length c5] 24)).call hb)
  replace S5 := Sl_bl S5 (((Bl.refl _).al (.cells #[.int .i64 Y.k, .int .i64 Y.n, .string Y.t, .slice A5 Y.is.length c5] 24)).call hb)
  have hB7 := hB6.call hb
  clear hb
  obtain ⟨x0, x1, x2, x3⟩ := b7.out
  go_wp2_with fail
  clear x0 x1 x2 x3
  refine (check_yes a (fun _ => True) _ _ _ (Utf8Tabs_below HT.out hB7) hat S1 hra.out).mono ?_
  rintro en w8 ⟨rfl, hb⟩
  replace b3 := Lib.hid (b3.out.later hb)
  replace b5 := Lib.hid (b5.out.later hb)
  replace b7 := Lib.hid (b7.out.later hb)
  replace b12 := Lib.hid (b12.out.later hb)
  replace S1 := Sl_bl S1 hb
  replace S5 := Sl_bl S5 hb
  have hB8 := hB7.call hb
  clear hb
  obtain ⟨y0, y1, y2, y3⟩ := b5.out
  obtain ⟨v0, v1, v2, v3⟩ := b12.out
  go_wp2_with fail
  clear y0 y1 y2 y3 v0 v1 v2 v3
  refine (put_is Y x l (fun _ => True) _ _ _ _ _ _ _ _ (Utf8Tabs_below HT.out hB8) S5 hct (Sl_bl hl hB8) (Sl_bl hx hB8) hxt HR3.out).mono ?_
  rintro en w9 ⟨A9, c9, rfl, _, S9, hb⟩
  replace b7 := Lib.hid (b7.out.later hb)
  replace S1 := Sl_bl S1 hb
  have hB9 := hB8.call hb
  clear hb b3 b5 b12 S5 S3
  replace l1 := b7.out.lt
  obtain ⟨x0, x1, x2, x3⟩ := b7.out
  go_wp2_with fail
  clear x0 x1 x2 x3
  have hB10 := hB9.al (.cells #[.int .i64 a.k, .int .i64 a.n, .string a.t, .slice A9 a.is.length c9] 24)
  refine (veq_is a (fun _ => True) (fun _ => True) _ _ _ _ _ (Sl_bl S9 ((Bl.refl _).al _)) (Sl_bl S1 ((Bl.refl _).al _))).mono ?_
  rintro en w11 ⟨rfl, hb⟩
  have hB11 := hB10.call hb
  clear hb
  go_wp2_with fail
  refine (speaks_calls _ (Utf8Tabs_below HT.out hB11)).mono ?_
  rintro en w12 ⟨rfl, hb⟩
  go_wp2
  go_ret
  exact ⟨rfl, hB11.call hb⟩

theorem back_calls (v x : Val) (l : List Val) (A B D : Option Addr) (c m d p : Nat) (w : World) (hT : Lib.Utf8Tabs 1 2 w) (hv : Sl w (fun _ => True) v.is A v.is.length c) (hvt : v.t.size ≤ big) (hl : Sl w (fun _ => True) l B m d) (hx : Sl w (fun _ => True) x.is D x.is.length p) (hxt : x.t.size ≤ big) :
    Calls Tryd.prog 4 #[.agg #[.int .i64 v.k, .int .i64 v.n, .string v.t, .slice A v.is.length c], .slice B m d, .agg #[.int .i64 x.k, .int .i64 x.n, .string x.t, .slice D x.is.length p]] w (Says w) := by
  obtain ⟨a, e, hr⟩ : ∃ a e, putG v l x = (a, e) := ⟨_, _, rfl⟩
  by_cases he : e = 0
  · subst he
    rcases back_put hr with ⟨Y, h2, h3⟩ | h2
    · exact back_full v x a Y l A B D c m d p w hT hv hvt hl hx hxt hr h2 h3
    · exact back_long v x a vz l A B D c m d p w hT hv hvt hl hx hxt hr h2
  · exact back_refused v x a e l A B D c m d p w hT hv hvt hl hx hxt hr (by simpa using he)
end Go.Proofs.YtmbgaaoneaplmaaDoor
