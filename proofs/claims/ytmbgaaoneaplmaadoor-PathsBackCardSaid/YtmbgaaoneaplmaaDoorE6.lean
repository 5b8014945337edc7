/- Walks: paths.Put. -/
import Derived.Test.YtmbgaaoneaplmaaDoorE5
namespace Go.Proofs.YtmbgaaoneaplmaaDoor
open Go.RowKit

/-- A value with something else at a path; what is wrong. -/
noncomputable def putG (v : Val) (l : List Val) (x : Val) : Val × Int :=
  if rightB v = false then (vz, 3) else if askF l ≠ 0 then (vz, askF l) else if rightB x = false then (vz, 3) else caughtF (putF v l x)

abbrev putW (w : World) (v x : Val) (A B D : Option Addr) (c m d p : Nat) : World :=
  (((w.alloc (.cells #[.int .i64 v.k, .int .i64 v.n, .string v.t, .slice A v.is.length c] 24)).alloc (.cells #[.slice B m d] 22)).alloc (.cells #[.int .i64 x.k, .int .i64 x.n, .string x.t, .slice D x.is.length p] 24)).alloc (.cells #[.int .i64 0, .int .i64 0, .string ⟨#[]⟩, .slice none 0 0] 24)

/-- What a Put has laid. -/
theorem putW_boxes (w w1 : World) (v x : Val) (A B D : Option Addr) (c m d p : Nat) (hb : Below (putW w v x A B D c m d p).heap.size (putW w v x A B D c m d p) w1) :
    BoxAt w1 w.heap.size v.k v.n v.t A v.is.length c ∧ w1.cell? ⟨w.heap.size + 1, 0, none⟩ = some (.slice B m d) ∧ BoxAt w1 (w.heap.size + 1 + 1) x.k x.n x.t D x.is.length p ∧ VarAt w1 (w.heap.size + 1 + 1 + 1) 0 0 ⟨#[]⟩ none 0 0 ∧ Below w.heap.size w w1 ∧ w.heap.size + 4 ≤ w1.heap.size := by
  have hsz : w.heap.size + 4 ≤ w1.heap.size := by have := hb.size; simpa using this
  have hc2 : ((w.alloc (.cells #[.int .i64 v.k, .int .i64 v.n, .string v.t, .slice A v.is.length c] 24)).alloc (.cells #[.slice B m d] 22)).cell? ⟨w.heap.size + 1, 0, none⟩ = some (.slice B m d) := by simp
  have hc : (putW w v x A B D c m d p).cell? ⟨w.heap.size + 1, 0, none⟩ = some (.slice B m d) := cell_later (((Bl.refl _).al _).al _) hc2
  refine ⟨((BoxAt.new w v.k v.n v.t A v.is.length c 24).later ((((Bl.refl _).al _).al _).al _)).later hb, cell_later hb hc, ?_, ?_, (((((Bl.refl _).al _).al _).al _).al _).call hb, hsz⟩
  · have := ((BoxAt.new ((w.alloc (.cells #[.int .i64 v.k, .int .i64 v.n, .string v.t, .slice A v.is.length c] 24)).alloc (.cells #[.slice B m d] 22)) x.k x.n x.t D x.is.length p 24).later ((Bl.refl _).al _)).later hb
    simpa using this
  · have := (VarAt.new (((w.alloc (.cells #[.int .i64 v.k, .int .i64 v.n, .string v.t, .slice A v.is.length c] 24)).alloc (.cells #[.slice B m d] 22)).alloc (.cells #[.int .i64 x.k, .int .i64 x.n, .string x.t, .slice D x.is.length p] 24)) 0 0 ⟨#[]⟩ none 0 0 24).later hb
    simpa using this

set_option maxHeartbeats 2000000 in
set_option maxRecDepth 100000 in
theorem put_wrong (v x : Val) (ok ok' : Nat → Prop) (A B D : Option Addr) (c m d p : Nat) (w : World) (hT : Lib.Utf8Tabs 1 2 w) (hv : Sl w ok v.is A v.is.length c) (hvt : v.t.size ≤ big) (hr : rightB v = false) :
    Calls Tryd.prog 11 #[.agg #[.int .i64 v.k, .int .i64 v.n, .string v.t, .slice A v.is.length c], .slice B m d, .agg #[.int .i64 x.k, .int .i64 x.n, .string x.t, .slice D x.is.length p]] w (RetV2 ok' vz (.int .i64 3) w) := by
  replace hT := Lib.hid hT
  replace hr := Lib.hid hr
  go_enter Tryd.func11, Tryd.ntmps11
  go_wp2_with fail
  refine (check_no v _ _ _ _ (Utf8Tabs_below hT.out (((((Bl.refl _).al _).al _).al _).al _)) hvt (Sl_bl hv (((((Bl.refl _).al _).al _).al _).al _)) hr.out).mono ?_
  rintro e w1 ⟨rfl, hb⟩
  obtain ⟨h0, h1, h2, h3, hB, hs⟩ := putW_boxes w w1 v x A B D c m d p hb
  have HV := Lib.hid h3
  obtain ⟨⟨z0, z1, z2, z3⟩, f0, f1, f2, f3⟩ := h3
  go_wp2
  obtain ⟨q0, q1, q2, q3⟩ := (set4_var (k := 0) (n := 0) (t := ⟨#[]⟩) (A := none) (m := 0) (c := 0) HV.out).1
  change bodyPost _ _ _ _ _ (set4 w1 (w.heap.size + 1 + 1 + 1) 0 0 ⟨#[]⟩ none 0 0)
  exact bodyPost_ret (v := .tuple #[.agg #[.int .i64 0, .int .i64 0, .string ⟨#[]⟩, .slice none 0 0], .int .i64 3]) (by simp [results, Tryd.results11, go_sem, q0, q1, q2, q3]) rfl ⟨_, rfl, IsV_vz _ _, set4_below hB (by omega)⟩
set_option maxHeartbeats 2000000 in
set_option maxRecDepth 100000 in
theorem put_asked (v x : Val) (l : List Val) (ok ok' : Nat → Prop) (A B D : Option Addr) (c m d p : Nat) (w : World) (hT : Lib.Utf8Tabs 1 2 w) (hv : Sl w ok v.is A v.is.length c) (hvt : v.t.size ≤ big) (hl : Sl w ok l B m d) (hr : rightB v = true) (ha : askF l ≠ 0) :
    Calls Tryd.prog 11 #[.agg #[.int .i64 v.k, .int .i64 v.n, .string v.t, .slice A v.is.length c], .slice B m d, .agg #[.int .i64 x.k, .int .i64 x.n, .string x.t, .slice D x.is.length p]] w (RetV2 ok' vz (.int .i64 (askF l)) w) := by
  replace hT := Lib.hid hT
  replace hr := Lib.hid hr
  replace ha := Lib.hid ha
  go_enter Tryd.func11, Tryd.ntmps11
  go_wp2_with fail
  refine (check_yes v _ _ _ _ (Utf8Tabs_below hT.out (((((Bl.refl _).al _).al _).al _).al _)) hvt (Sl_bl hv (((((Bl.refl _).al _).al _).al _).al _)) hr.out).mono ?_
  rintro e w1 ⟨rfl, hb⟩
  obtain ⟨h0, h1, h2, h3, hB, hs⟩ := putW_boxes w w1 v x A B D c m d p hb
  have H0 := Lib.hid h0
  have H1 := Lib.hid h1
  have H2 := Lib.hid h2
  have HV := Lib.hid h3
  have hz1 : w.heap.size + 1 < w1.heap.size := by omega
  clear h0 h2 h3
  go_wp2_with fail
  refine (asked_calls l _ _ _ _ _ (Utf8Tabs_below hT.out hB) (Sl_bl hl hB)).mono ?_
  rintro e w2 ⟨rfl, hb2⟩
  have hB2 := hB.call hb2
  have hs2 : w.heap.size + 4 ≤ w2.heap.size := by have := hb2.size; omega
  clear h1
  have hb0 : (askF l != 0) = true := by simpa using ha.out
  have h3 := HV.out.later hb2
  have HV3 := Lib.hid h3
  obtain ⟨⟨z0, z1, z2, z3⟩, f0, f1, f2, f3⟩ := h3
  generalize askF l = er at *
  go_wp2
  obtain ⟨q0, q1, q2, q3⟩ := (set4_var (k := 0) (n := 0) (t := ⟨#[]⟩) (A := none) (m := 0) (c := 0) HV3.out).1
  change bodyPost _ _ _ _ _ (set4 w2 (w.heap.size + 1 + 1 + 1) 0 0 ⟨#[]⟩ none 0 0)
  exact bodyPost_ret (v := .tuple #[.agg #[.int .i64 0, .int .i64 0, .string ⟨#[]⟩, .slice none 0 0], .int .i64 er]) (by simp [results, Tryd.results11, go_sem, q0, q1, q2, q3]) rfl ⟨_, rfl, IsV_vz _ _, set4_below hB2 (by omega)⟩

set_option maxHeartbeats 2000000 in
set_option maxRecDepth 100000 in
theorem put_new_wrong (v x : Val) (l : List Val) (ok ok' : Nat → Prop) (A B D : Option Addr) (c m d p : Nat) (w : World) (hT : Lib.Utf8Tabs 1 2 w) (hv : Sl w ok v.is A v.is.length c) (hvt : v.t.size ≤ big) (hl : Sl w ok l B m d) (hx : Sl w ok x.is D x.is.length p) (hxt : x.t.size ≤ big) (hr : rightB v = true) (ha : askF l = 0) (hy : rightB x = false) :
    Calls Tryd.prog 11 #[.agg #[.int .i64 v.k, .int .i64 v.n, .string v.t, .slice A v.is.length c], .slice B m d, .agg #[.int .i64 x.k, .int .i64 x.n, .string x.t, .slice D x.is.length p]] w (RetV2 ok' vz (.int .i64 3) w) := by
  replace hy := Lib.hid hy
  replace hT := Lib.hid hT
  replace hr := Lib.hid hr
  replace ha := Lib.hid ha
  go_enter Tryd.func11, Tryd.ntmps11
  go_wp2_with fail
  refine (check_yes v _ _ _ _ (Utf8Tabs_below hT.out (((((Bl.refl _).al _).al _).al _).al _)) hvt (Sl_bl hv (((((Bl.refl _).al _).al _).al _).al _)) hr.out).mono ?_
  rintro e w1 ⟨rfl, hb⟩
  obtain ⟨h0, h1, h2, h3, hB, hs⟩ := putW_boxes w w1 v x A B D c m d p hb
  have H0 := Lib.hid h0
  have H1 := Lib.hid h1
  have H2 := Lib.hid h2
  have HV := Lib.hid h3
  have hz1 : w.heap.size + 1 < w1.heap.size := by omega
  clear h0 h2 h3
  go_wp2_with fail
  refine (asked_calls l _ _ _ _ _ (Utf8Tabs_below hT.out hB) (Sl_bl hl hB)).mono ?_
  rintro e w2 ⟨rfl, hb2⟩
  have hB2 := hB.call hb2
  have hs2 : w.heap.size + 4 ≤ w2.heap.size := by have := hb2.size; omega
  clear h1
  have hb0 := ha.out
  have h2 := H2.out.later hb2
  have hz2 := h2.lt
  obtain ⟨x0, x1, x2, x3⟩ := h2
  go_wp2_with fail
  refine (check_no x _ _ _ _ (Utf8Tabs_below hT.out hB2) hxt (Sl_bl hx hB2) hy.out).mono ?_
  rintro e w3 ⟨rfl, hb3⟩
  have hB3 := hB2.call hb3
  have h3 := (HV.out.later hb2).later hb3
  have HV3 := Lib.hid h3
  obtain ⟨⟨z0, z1, z2, z3⟩, f0, f1, f2, f3⟩ := h3
  go_wp2
  obtain ⟨q0, q1, q2, q3⟩ := (set4_var (k := 0) (n := 0) (t := ⟨#[]⟩) (A := none) (m := 0) (c := 0) HV3.out).1
  change bodyPost _ _ _ _ _ (set4 w3 (w.heap.size + 1 + 1 + 1) 0 0 ⟨#[]⟩ none 0 0)
  exact bodyPost_ret (v := .tuple #[.agg #[.int .i64 0, .int .i64 0, .string ⟨#[]⟩, .slice none 0 0], .int .i64 3]) (by simp [results, Tryd.results11, go_sem, q0, q1, q2, q3]) rfl ⟨_, rfl, IsV_vz _ _, set4_below hB3 (by omega)⟩

set_option maxHeartbeats 2000000 in
set_option maxRecDepth 100000 in
theorem put_goes (v x : Val) (l : List Val) (ok ok' : Nat → Prop) (A B D : Option Addr) (c m d p : Nat) (w : World) (hT : Lib.Utf8Tabs 1 2 w) (hv : Sl w ok v.is A v.is.length c) (hvt : v.t.size ≤ big) (hl : Sl w ok l B m d) (hx : Sl w ok x.is D x.is.length p) (hxt : x.t.size ≤ big) (hok : ∀ k, w.heap.size ≤ k → ok' k) (hr : rightB v = true) (ha : askF l = 0) (hy : rightB x = true) :
    Calls Tryd.prog 11 #[.agg #[.int .i64 v.k, .int .i64 v.n, .string v.t, .slice A v.is.length c], .slice B m d, .agg #[.int .i64 x.k, .int .i64 x.n, .string x.t, .slice D x.is.length p]] w (RetV2 ok' (caughtF (putF v l x)).1 (.int .i64 (caughtF (putF v l x)).2) w) := by
  have hev := Lib.hid (right_ev hr)
  have hel := Lib.hid (ask_ev ha)
  replace hy := Lib.hid hy
  have hmf : ∀ (fn : Fn) (first cap : Array Value) (w : World), (Instr.makeFunc fn first cap).run Tryd.prog w = .ok (.func fn first cap) w := fun _ _ _ _ => rfl
  replace hT := Lib.hid hT
  replace hr := Lib.hid hr
  replace ha := Lib.hid ha
  go_enter Tryd.func11, Tryd.ntmps11
  go_wp2_with fail
  refine (check_yes v _ _ _ _ (Utf8Tabs_below hT.out (((((Bl.refl _).al _).al _).al _).al _)) hvt (Sl_bl hv (((((Bl.refl _).al _).al _).al _).al _)) hr.out).mono ?_
  rintro e w1 ⟨rfl, hb⟩
  obtain ⟨h0, h1, h2, h3, hB, hs⟩ := putW_boxes w w1 v x A B D c m d p hb
  have H0 := Lib.hid h0
  have H1 := Lib.hid h1
  have H2 := Lib.hid h2
  have HV := Lib.hid h3
  have hz1 : w.heap.size + 1 < w1.heap.size := by omega
  clear h0 h2 h3
  go_wp2_with fail
  refine (asked_calls l _ _ _ _ _ (Utf8Tabs_below hT.out hB) (Sl_bl hl hB)).mono ?_
  rintro e w2 ⟨rfl, hb2⟩
  have hB2 := hB.call hb2
  have hs2 : w.heap.size + 4 ≤ w2.heap.size := by have := hb2.size; omega
  clear h1
  have hb0 := ha.out
  have h2 := H2.out.later hb2
  have hz2 := h2.lt
  obtain ⟨x0, x1, x2, x3⟩ := h2
  go_wp2_with fail
  refine (check_yes x _ _ _ _ (Utf8Tabs_below hT.out hB2) hxt (Sl_bl hx hB2) hy.out).mono ?_
  rintro e w3 ⟨rfl, hb3⟩
  have hB3 := hB2.call hb3
  have hs3 : w.heap.size + 4 ≤ w3.heap.size := by have := hb3.size; omega
  clear x0 x1 x2 x3
  go_wp2_with fail
  have hP := put1_calls w.heap.size (w.heap.size + 1) (w.heap.size + 1 + 1) v x l (fun k => ok k ∧ k < w.heap.size) A B D c m d p (two0 w3) (((H0.out.later hb2).later hb3).later (((Bl.refl _).al _).al _)) (cell_later (((Bl.refl _).al _).al _) (cell_later hb3 (cell_later hb2 H1.out))) (((H2.out.later hb2).later hb3).later (((Bl.refl _).al _).al _)) (Sl_bl (Sl_bound hv) ((hB3.al _).al _)) hvt (Sl_bl (Sl_bound hl) ((hB3.al _).al _)) (Sl_bl (Sl_bound hx) ((hB3.al _).al _)) hxt hev.out hel.out (fun k hk => by simp; omega)
  refine (caught_calls 44 _ (putF v l x) _ (fun k => w3.heap.size ≤ k) w3 (call44 _) (Utf8Tabs_below hT.out hB3) (fun k hk => by have := hk.2; omega) (fun k hk => hk) hP).mono ?_
  rintro e w4 ⟨v4, rfl, ⟨A4, c4, rfl, ht4, S4⟩, hb4⟩
  have hB4 := hB3.call hb4
  have h3 := ((HV.out.later hb2).later hb3).later hb4
  have HV3 := Lib.hid h3
  obtain ⟨⟨z0, z1, z2, z3⟩, f0, f1, f2, f3⟩ := h3
  clear hP
  generalize (caughtF (putF v l x)).1 = y at *
  generalize (caughtF (putF v l x)).2 = er at *
  go_wp2
  obtain ⟨q0, q1, q2, q3⟩ := (set4_var (k := y.k) (n := y.n) (t := y.t) (A := A4) (m := y.is.length) (c := c4) HV3.out).1
  change bodyPost _ _ _ _ _ (set4 w4 (w.heap.size + 1 + 1 + 1) y.k y.n y.t A4 y.is.length c4)
  exact bodyPost_ret (v := .tuple #[.agg #[.int .i64 y.k, .int .i64 y.n, .string y.t, .slice A4 y.is.length c4], .int .i64 er]) (by simp [results, Tryd.results11, go_sem, q0, q1, q2, q3]) rfl ⟨_, rfl, ((IsV.at ht4 S4).set4 (by omega) _ _ _ _ _ _).mono (fun k hk _ => hok k (by omega)), set4_below hB4 (by omega)⟩
end Go.Proofs.YtmbgaaoneaplmaaDoor
