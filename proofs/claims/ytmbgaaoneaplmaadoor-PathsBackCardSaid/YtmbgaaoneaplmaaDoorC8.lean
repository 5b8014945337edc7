/- Walks: paths.Get. -/
import Derived.Test.YtmbgaaoneaplmaaDoorC7
namespace Go.Proofs.YtmbgaaoneaplmaaDoor
open Go.RowKit

theorem count_ev : ∀ (x : Val) (d m : Int), 0 < countV x d m → m ≤ 100000 → EvV x := by
  refine Val.ind (fun x ih => ?_)
  have hl : ∀ (l : List Val), (∀ y ∈ l, ∀ d m, 0 < countV y d m → m ≤ 100000 → EvV y) → ∀ d m n r, 0 ≤ n → m ≤ 100000 → countL l d m n = some r → EvL l := by
    intro l
    induction l with
    | nil => intro _ d m n r _ _ _; simp only [EvL]
    | cons a l ihl =>
      intro hy d m n r h0 h1 h
      simp only [countL] at h
      split at h
      · cases h
      · rename_i hne
        have hc := count_bound a d (m - n)
        simp only [EvL]
        exact ⟨hy a List.mem_cons_self d (m - n) (by omega) (by omega), ihl (fun z hz => hy z (List.mem_cons_of_mem _ hz)) d m _ r (by omega) h1 h⟩
  intro d m h hm
  rw [countV_def] at h
  split at h
  · omega
  · rename_i hc
    split at h
    · omega
    · rename_i r hr
      split at h
      · rename_i hf
        rw [EvV_def]
        refine ⟨fun h4 h5 => ?_, by omega, hl x.is ih (d - 1) m 1 r (by omega) hm hr⟩
        unfold formB at hf
        rw [if_neg h4, if_neg h5] at hf
        by_cases h6 : x.k = 6
        · rw [if_pos h6] at hf
          by_cases h2 : x.is.length % 2 = 1
          · rw [if_pos h2] at hf; cases hf
          · omega
        · rw [if_neg h6] at hf
          simp at hf
          simp [hf]
      · omega
theorem right_ev {x : Val} (h : rightB x = true) : EvV x := count_ev x 16 1024 (by simpa [rightB] using h) (by omega)
theorem all_ev {l : List Val} (h : l.all rightB = true) : EvL l := EvL_of (fun x hx => right_ev (List.all_eq_true.1 h x hx))
theorem EvV_at {v : Val} (l : List Val) (hv : EvV v) (hl : EvL l) : EvV (atF v l).1 := by
  induction l generalizing v with
  | nil => exact hv
  | cons s r ih =>
    simp only [EvL] at hl
    simp only [atF]
    split
    · exact ih (EvV_part hv hl.1) hl.2
    · exact EvV_vz
theorem ask_ev {l : List Val} (h : askF l = 0) : EvL l := by
  unfold askF at h
  split at h
  · cases h
  · split at h
    · rename_i h1; exact all_ev h1
    · cases h

/-- What stands at a path; whether something does; what is wrong. -/
noncomputable def getF (v : Val) (l : List Val) : Val × Bool × Int :=
  if rightB v = false then (vz, false, 3) else if askF l ≠ 0 then (vz, false, askF l) else ((atF v l).1, (atF v l).2, 0)

theorem check_yes (x : Val) (ok : Nat → Prop) (A : Option Addr) (c : Nat) (w : World) (hT : Lib.Utf8Tabs 1 2 w) (hs : x.t.size ≤ big) (hx : Sl w ok x.is A x.is.length c) (hr : rightB x = true) :
    Calls Tryd.prog 16 #[.agg #[.int .i64 x.k, .int .i64 x.n, .string x.t, .slice A x.is.length c]] w fun e w' => e = .returned (.int .i64 0) ∧ Below w.heap.size w w' := by
  have := check_at x ok A c w hT hs hx
  rwa [if_pos hr] at this
theorem check_no (x : Val) (ok : Nat → Prop) (A : Option Addr) (c : Nat) (w : World) (hT : Lib.Utf8Tabs 1 2 w) (hs : x.t.size ≤ big) (hx : Sl w ok x.is A x.is.length c) (hr : rightB x = false) :
    Calls Tryd.prog 16 #[.agg #[.int .i64 x.k, .int .i64 x.n, .string x.t, .slice A x.is.length c]] w fun e w' => e = .returned (.int .i64 3) ∧ Below w.heap.size w w' := by
  have := check_at x ok A c w hT hs hx
  rwa [hr, if_neg (by decide)] at this

set_option maxHeartbeats 1000000 in
set_option maxRecDepth 100000 in
theorem get_calls (v : Val) (l : List Val) (ok ok' : Nat → Prop) (A B : Option Addr) (c m d : Nat) (w : World) (hT : Lib.Utf8Tabs 1 2 w) (hv : Sl w ok v.is A v.is.length c) (ht : v.t.size ≤ big) (hx : Sl w ok l B m d) (hok : ∀ k, w.heap.size ≤ k → ok' k) :
    Calls Tryd.prog 15 #[.agg #[.int .i64 v.k, .int .i64 v.n, .string v.t, .slice A v.is.length c], .slice B m d] w (RetV3 ok' (getF v l).1 (.bool (getF v l).2.1) (.int .i64 (getF v l).2.2) w) := by
  have hm : m ≤ 140737488355328 := hx.le
  have HT := Lib.hid hT
  clear hT
  have VN := (VarAt.new (w.alloc (.cells #[.int .i64 v.k, .int .i64 v.n, .string v.t, .slice A v.is.length c] 24)) 0 0 ⟨#[]⟩ none 0 0 24)
  have BN := (BoxAt.new w v.k v.n v.t A v.is.length c 24).later ((Bl.refl _).al (.cells #[.int .i64 0, .int .i64 0, .string ⟨#[]⟩, .slice none 0 0] 24))
  have HVN := Lib.hid VN
  have HBN := Lib.hid BN
  clear VN BN
  cases hr : rightB v with
  | false =>
    have hg : getF v l = (vz, false, 3) := by unfold getF; rw [if_pos hr]
    rw [hg]
    clear hg
    have HR := Lib.hid hr
    clear hr
    go_enter Tryd.func15, Tryd.ntmps15
    go_wp2_with fail
    refine (check_no v _ _ _ _ (Utf8Tabs_below HT.out (((Bl.refl _).al _).al _)) ht (Sl_bl hv (((Bl.refl _).al _).al _)) HR.out).mono ?_
    rintro e w1 ⟨rfl, hb⟩
    have hB1 : Below w.heap.size w w1 := (((Bl.refl _).al _).al _).call hb
    have k1 := HVN.out.later hb
    simp only [World.size_alloc] at k1
    have K1 := Lib.hid k1
    obtain ⟨⟨z0, z1, z2, z3⟩, f0, f1, f2, f3⟩ := k1
    go_wp2
    obtain ⟨q0, q1, q2, q3⟩ := (set4_var (k := 0) (n := 0) (t := ⟨#[]⟩) (A := none) (m := 0) (c := 0) K1.out).1
    change bodyPost _ _ _ _ _ (set4 w1 (w.heap.size + 1) 0 0 ⟨#[]⟩ none 0 0)
    exact bodyPost_ret (v := .tuple #[.agg #[.int .i64 0, .int .i64 0, .string ⟨#[]⟩, .slice none 0 0], .bool false, .int .i64 3]) (by simp [results, Tryd.results15, go_sem, q0, q1, q2, q3]) rfl ⟨_, rfl, IsV_vz _ _, set4_below hB1 (by omega)⟩
  | true =>
    have hev := right_ev hr
    by_cases ha : askF l = 0
    · have hg : getF v l = ((atF v l).1, (atF v l).2, 0) := by unfold getF; rw [if_neg (by rw [hr]; decide), if_neg (by rw [ha]; decide)]
      rw [hg]
      clear hg
      have HR := Lib.hid hr
      have HA := Lib.hid ha
      have HEV := Lib.hid hev
      clear hr ha hev
      go_enter Tryd.func15, Tryd.ntmps15
      go_wp2_with fail
      refine (check_yes v _ _ _ _ (Utf8Tabs_below HT.out (((Bl.refl _).al _).al _)) ht (Sl_bl hv (((Bl.refl _).al _).al _)) HR.out).mono ?_
      rintro e w1 ⟨rfl, hb⟩
      have hB1 : Below w.heap.size w w1 := (((Bl.refl _).al _).al _).call hb
      go_wp2_with fail
      refine (asked_calls l _ _ _ _ _ (Utf8Tabs_below HT.out hB1) (Sl_bl hx hB1)).mono ?_
      rintro e w2 ⟨rfl, hb2⟩
      rw [HA.out]
      have hB2 : Below w.heap.size w w2 := hB1.call hb2
      have b2 := (HBN.out.later hb).later hb2
      obtain ⟨a0, a1, a2, a3⟩ := b2
      go_wp2_with fail
      refine (at_calls v l (fun _ => True) _ _ _ _ _ _ (Sl_mono (Sl_bl hv hB2) (fun _ _ _ => trivial)) ht (Sl_mono (Sl_bl hx hB2) (fun _ _ _ => trivial)) HEV.out (ask_ev HA.out)).mono ?_
      rintro e w3 ⟨v3, rfl, ⟨A3, c3, rfl, ht3, S3⟩, hb3⟩
      have hev3 := EvV_at l HEV.out (ask_ev HA.out)
      generalize (atF v l).1 = y at *
      have hB3 : Below w.heap.size w w3 := hB2.call hb3
      clear a0 a1 a2 a3
      go_wp2_with fail
      refine (own_at y _ (fun k => w.heap.size + 1 < k) _ _ _ (Sl_bl S3 ((Bl.refl _).al _)) ht3 (by intro k hk; have := hb.size; have := hb2.size; have := hb3.size; simp at *; omega) hev3).mono ?_
      rintro e w4 ⟨v4, rfl, ⟨A4, c4, rfl, ht4, S4⟩, hb4⟩
      have hB4 : Below w.heap.size w w4 := (hB3.al _).call hb4
      have k1 := (((HVN.out.later hb).later hb2).later hb3).later (((Bl.refl _).al _).call hb4)
      simp only [World.size_alloc] at k1
      have K1 := Lib.hid k1
      obtain ⟨⟨z0, z1, z2, z3⟩, f0, f1, f2, f3⟩ := k1
      go_wp2
      obtain ⟨q0, q1, q2, q3⟩ := (set4_var (k := y.k) (n := y.n) (t := y.t) (A := A4) (m := y.is.length) (c := c4) K1.out).1
      change bodyPost _ _ _ _ _ (set4 w4 (w.heap.size + 1) y.k y.n y.t A4 y.is.length c4)
      refine bodyPost_ret (v := .tuple #[.agg #[.int .i64 y.k, .int .i64 y.n, .string y.t, .slice A4 y.is.length c4], .bool (atF v l).2, .int .i64 0]) (by simp [results, Tryd.results15, go_sem, q0, q1, q2, q3]) rfl ⟨_, rfl, ?_, set4_below hB4 (by omega)⟩
      exact ((IsV.at ht4 S4).set4 (by omega) _ _ _ _ _ _).mono (fun k hk _ => hok k (by omega))
    · have hg : getF v l = (vz, false, askF l) := by unfold getF; rw [if_neg (by rw [hr]; decide), if_pos ha]
      rw [hg]
      clear hg
      have HR := Lib.hid hr
      have ha' : (askF l != 0) = true := by simp [ha]
      clear hr ha
      go_enter Tryd.func15, Tryd.ntmps15
      go_wp2_with fail
      refine (check_yes v _ _ _ _ (Utf8Tabs_below HT.out (((Bl.refl _).al _).al _)) ht (Sl_bl hv (((Bl.refl _).al _).al _)) HR.out).mono ?_
      rintro e w1 ⟨rfl, hb⟩
      have hB1 : Below w.heap.size w w1 := (((Bl.refl _).al _).al _).call hb
      go_wp2_with fail
      refine (asked_calls l _ _ _ _ _ (Utf8Tabs_below HT.out hB1) (Sl_bl hx hB1)).mono ?_
      rintro e w2 ⟨rfl, hb2⟩
      have hB2 : Below w.heap.size w w2 := hB1.call hb2
      have k1 := (HVN.out.later hb).later hb2
      simp only [World.size_alloc] at k1
      have K1 := Lib.hid k1
      obtain ⟨⟨z0, z1, z2, z3⟩, f0, f1, f2, f3⟩ := k1
      go_wp2
      obtain ⟨q0, q1, q2, q3⟩ := (set4_var (k := 0) (n := 0) (t := ⟨#[]⟩) (A := none) (m := 0) (c := 0) K1.out).1
      change bodyPost _ _ _ _ _ (set4 w2 (w.heap.size + 1) 0 0 ⟨#[]⟩ none 0 0)
      exact bodyPost_ret (v := .tuple #[.agg #[.int .i64 0, .int .i64 0, .string ⟨#[]⟩, .slice none 0 0], .bool false, .int .i64 (askF l)]) (by simp [results, Tryd.results15, go_sem, q0, q1, q2, q3]) rfl ⟨_, rfl, IsV_vz _ _, set4_below hB2 (by omega)⟩
end Go.Proofs.YtmbgaaoneaplmaaDoor
