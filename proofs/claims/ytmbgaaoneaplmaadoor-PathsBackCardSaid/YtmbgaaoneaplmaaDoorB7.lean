/- Walks: value.count, value.right, value.Check. -/
import Derived.Test.YtmbgaaoneaplmaaDoorB6
namespace Go.Proofs.YtmbgaaoneaplmaaDoor
open Go.RowKit

mutual
/-- How many parts a value has, if it is right, has at most so many, and is at most so deep; else 0. -/
noncomputable def countV : Val → Int → Int → Int
  | ⟨k, n, t, is⟩, d, m => if m < 1 ∨ m ≤ is.length ∨ (0 < is.length ∧ d = 0) ∨ plainB k n t = false then 0
    else match countL is (d - 1) m 1 with
      | none => 0
      | some r => if formB k is = true then r else 0
noncomputable def countL : List Val → Int → Int → Int → Option Int
  | [], _, _, n => some n
  | x :: r, d, m, n => if countV x d (m - n) = 0 then none else countL r d m (n + countV x d (m - n))
end
theorem countV_def (x : Val) (d m : Int) : countV x d m = if m < 1 ∨ m ≤ x.is.length ∨ (0 < x.is.length ∧ d = 0) ∨ plainB x.k x.n x.t = false then 0
    else match countL x.is (d - 1) m 1 with
      | none => 0
      | some r => if formB x.k x.is = true then r else 0 := by cases x; simp only [countV]

theorem count_bound : ∀ (x : Val) (d m : Int), 0 ≤ countV x d m ∧ (countV x d m ≤ m ∨ countV x d m = 0) := by
  refine Val.ind (fun x ih => ?_)
  have hl : ∀ (l : List Val), (∀ y ∈ l, ∀ d m, 0 ≤ countV y d m ∧ (countV y d m ≤ m ∨ countV y d m = 0)) → ∀ d m n r, 0 ≤ n → n ≤ m → countL l d m n = some r → 0 ≤ r ∧ r ≤ m := by
    intro l
    induction l with
    | nil => intro _ d m n r h0 h1 h; simp only [countL, Option.some.injEq] at h; omega
    | cons a l ihl =>
      intro hy d m n r h0 h1 h
      simp only [countL] at h
      split at h
      · cases h
      · rename_i hne
        have := hy a List.mem_cons_self d (m - n)
        exact ihl (fun z hz => hy z (List.mem_cons_of_mem _ hz)) d m _ r (by omega) (by omega) h
  intro d m
  rw [countV_def]
  split
  · omega
  · rename_i hc
    split
    · omega
    · rename_i r hr
      have := hl x.is ih (d - 1) m 1 r (by omega) (by omega) hr
      split <;> omega

set_option maxHeartbeats 1000000 in
set_option maxRecDepth 100000 in
theorem count_step (k n d q : Int) (t : ByteArray) (l : List Val) (ok : Nat → Prop) (A : Option Addr) (m c : Nat) (w : World) (hT : Lib.Utf8Tabs 1 2 w) (hs : t.size ≤ big) (hx : Sl w ok l A m c) (hd : 0 ≤ d ∧ d ≤ 1000) (hq : 0 ≤ q ∧ q ≤ 1000000)
    (ih : ∀ z ∈ l, ∀ (ok : Nat → Prop) (A : Option Addr) (c : Nat) (d q : Int) (w : World), Lib.Utf8Tabs 1 2 w → z.t.size ≤ big → Sl w ok z.is A z.is.length c → 0 ≤ d ∧ d ≤ 1000 → 0 ≤ q ∧ q ≤ 1000000 →
      Calls Tryd.prog 102 #[.agg #[.int .i64 z.k, .int .i64 z.n, .string z.t, .slice A z.is.length c], .int .i64 d, .int .i64 q] w fun e w' => e = .returned (.int .i64 (countV z d q)) ∧ Below w.heap.size w w') :
    Calls Tryd.prog 102 #[.agg #[.int .i64 k, .int .i64 n, .string t, .slice A m c], .int .i64 d, .int .i64 q] w fun e w' => e = .returned (.int .i64 (countV ⟨k, n, t, l⟩ d q)) ∧ Below w.heap.size w w' := by
  have hm : m ≤ 140737488355328 := hx.le
  have HT := Lib.hid hT
  have IH := Lib.hid ih
  clear hT ih
  obtain ⟨hd0, hd1⟩ := hd
  obtain ⟨hq0, hq1⟩ := hq
  by_cases h1 : q < 1
  · go_enter Tryd.func102, Tryd.ntmps102
    go_wp2
    go_ret
    exact ⟨ret_int (by simp [countV, h1]), (Bl.refl _).al _⟩
  · by_cases h2 : q ≤ (m : Int)
    · go_enter Tryd.func102, Tryd.ntmps102
      go_wp2
      go_ret
      exact ⟨ret_int (by simp [countV, hx.1, h2]), (Bl.refl _).al _⟩
    · have h2' : decide (q ≤ (m : Int)) = false := by simpa using h2
      by_cases h3 : 0 < m ∧ d = 0
      · obtain ⟨h3, h4⟩ := h3
        subst h4
        go_enter Tryd.func102, Tryd.ntmps102
        go_wp2
        go_ret
        exact ⟨ret_int (by simp [countV, hx.1, h3]), (Bl.refl _).al _⟩
      · by_cases hm0 : 0 < m
        · have hd2 : 1 ≤ d := by omega
          have hd' : (d == 0) = false := by simp; omega
          have H3 := Lib.hid h3
          clear h3
          go_enter Tryd.func102, Tryd.ntmps102
          go_wp2_with fail
          refine (plain_calls _ _ _ _ _ _ _ (Utf8Tabs_below HT.out ((Bl.refl _).al _)) hs).mono ?_
          rintro e w1 ⟨rfl, hb⟩
          have hB1 : Below w.heap.size w w1 := ((Bl.refl _).al _).call hb
          have hbox := (BoxAt.new w k n t A m c 24).later hb
          cases hp : plainB k n t with
          | false =>
            go_wp2
            go_ret
            exact ⟨ret_int (by simp [countV, hp]), hB1⟩
          | true =>
            have c3 := hbox.2.2.2
            go_wp2
            go_loopw [7, 38] (fun z i wr => ∃ (j : Nat) (p : Int), i = .int .i64 j ∧ z = .int .i64 p ∧ j ≤ m ∧ 1 ≤ p ∧ p ≤ q ∧ Hid (countL (l.drop j) (d - 1) q p = countL l (d - 1) q 1) ∧ BoxAt wr w.heap.size k n t A m c ∧ Below w.heap.size w wr) (fun _ i _ => m - (intOf i).toNat)
            case atStart => exact ⟨0, 1, rfl, rfl, by omega, by omega, by omega, Lib.hid rfl, hbox, hB1⟩
            case round =>
              clear c3 hbox hb
              obtain ⟨j, p, rfl, rfl, hj, hp1, hp2, HL, hbox, hB⟩ := hrel
              by_cases hlt : j < m
              · obtain ⟨x, hxi⟩ : ∃ x, l[j]? = some x := ⟨l[j]'(by rw [hx.1]; exact hlt), List.getElem?_eq_getElem _⟩
                obtain ⟨bx, ox, Ax, cx, rfl, _, hbx, ex0, ex1, ex2, ex3, hsz, Sx⟩ := RepL_get (Sl_bl hx hB).2.2.2 hxi
                have hdr : l.drop j = x :: l.drop (j + 1) := by
                  obtain ⟨h1, h2⟩ := List.getElem?_eq_some_iff.1 hxi
                  rw [List.drop_eq_getElem_cons h1, h2]
                have HDR := Lib.hid hdr
                have HXI := Lib.hid hxi
                clear hdr hxi
                go_wp2_with fail
                refine (IH.out x (List.mem_of_getElem? HXI.out) _ _ _ (d - 1) (q - p) _ (Utf8Tabs_below HT.out (hB.al _)) hsz (Sl_bl Sx ((Bl.refl _).al _)) (by omega) (by omega)).mono ?_
                rintro e w2 ⟨rfl, hb⟩
                have hB2 : Below w.heap.size w w2 := (hB.al _).call hb
                have hbox2 := hbox.later (((Bl.refl _).al _).call hb)
                obtain ⟨g0, g1⟩ := count_bound x (d - 1) (q - p)
                have hHL := HL.out
                rw [HDR.out] at hHL
                simp only [countL] at hHL
                by_cases hc : countV x (d - 1) (q - p) = 0
                · rw [if_pos hc] at hHL
                  have HHL := Lib.hid hHL
                  have hc' : (countV x (d - 1) (q - p) == 0) = true := by simp [hc]
                  clear hHL hc
                  go_wp2
                  go_ret
                  refine ⟨ret_int ?_, hB2⟩
                  rw [countV_def]
                  simp only [← HHL.out]
                  split <;> rfl
                · rw [if_neg hc] at hHL
                  have HHL := Lib.hid hHL
                  have hc' : (countV x (d - 1) (q - p) == 0) = false := by simp [hc]
                  have g2 : countV x (d - 1) (q - p) ≤ q - p := by omega
                  have g3 : 0 < countV x (d - 1) (q - p) := by omega
                  clear hHL hc g1
                  go_wp2
                  go_roundw
                  case rel => exact ⟨j + 1, p + countV x (d - 1) (q - p), by go_num, rfl, by omega, by omega, by omega, HHL, hbox2, hB2⟩
                  case measure => simp [intOf]; omega
              · obtain rfl : j = m := by omega
                have hHL := HL.out
                rw [List.drop_eq_nil_of_le (by rw [hx.1]; omega)] at hHL
                simp only [countL] at hHL
                have HHL := Lib.hid hHL
                clear hHL
                obtain ⟨b0, b1, b2, b3⟩ := hbox
                go_wp2_with fail
                refine (form_calls _ _ _ _ _ _ _ _ _ (Sl_bl hx hB)).mono ?_
                rintro e w2 ⟨rfl, hb⟩
                have hB2 : Below w.heap.size w w2 := hB.call hb
                cases hf : formB k l with
                | false =>
                  go_wp2
                  go_ret
                  refine ⟨ret_int ?_, hB2⟩
                  rw [countV_def]
                  simp only [← HHL.out, hf]
                  split <;> rfl
                | true =>
                  go_wp2
                  go_ret
                  refine ⟨ret_int ?_, hB2⟩
                  rw [countV_def]
                  simp only [← HHL.out, hf]
                  rw [if_neg]
                  · rfl
                  · rintro (h | h | h | h)
                    · omega
                    · rw [hx.1] at h; omega
                    · rw [hx.1] at h; exact H3.out h
                    · rw [hp] at h; cases h
        · have H3 := Lib.hid h3
          clear h3
          go_enter Tryd.func102, Tryd.ntmps102
          go_wp2_with fail
          refine (plain_calls _ _ _ _ _ _ _ (Utf8Tabs_below HT.out ((Bl.refl _).al _)) hs).mono ?_
          rintro e w1 ⟨rfl, hb⟩
          have hB1 : Below w.heap.size w w1 := ((Bl.refl _).al _).call hb
          have hbox := (BoxAt.new w k n t A m c 24).later hb
          cases hp : plainB k n t with
          | false =>
            go_wp2
            go_ret
            exact ⟨ret_int (by simp [countV, hp]), hB1⟩
          | true =>
            have c3 := hbox.2.2.2
            go_wp2
            go_loopw [7, 38] (fun z i wr => ∃ (j : Nat) (p : Int), i = .int .i64 j ∧ z = .int .i64 p ∧ j ≤ m ∧ 1 ≤ p ∧ p ≤ q ∧ Hid (countL (l.drop j) (d - 1) q p = countL l (d - 1) q 1) ∧ BoxAt wr w.heap.size k n t A m c ∧ Below w.heap.size w wr) (fun _ i _ => m - (intOf i).toNat)
            case atStart => exact ⟨0, 1, rfl, rfl, by omega, by omega, by omega, Lib.hid rfl, hbox, hB1⟩
            case round =>
              clear c3 hbox hb
              obtain ⟨j, p, rfl, rfl, hj, hp1, hp2, HL, hbox, hB⟩ := hrel
              · obtain rfl : j = m := by omega
                have hHL := HL.out
                rw [List.drop_eq_nil_of_le (by rw [hx.1]; omega)] at hHL
                simp only [countL] at hHL
                have HHL := Lib.hid hHL
                clear hHL
                obtain ⟨b0, b1, b2, b3⟩ := hbox
                go_wp2_with fail
                refine (form_calls _ _ _ _ _ _ _ _ _ (Sl_bl hx hB)).mono ?_
                rintro e w2 ⟨rfl, hb⟩
                have hB2 : Below w.heap.size w w2 := hB.call hb
                cases hf : formB k l with
                | false =>
                  go_wp2
                  go_ret
                  refine ⟨ret_int ?_, hB2⟩
                  rw [countV_def]
                  simp only [← HHL.out, hf]
                  split <;> rfl
                | true =>
                  go_wp2
                  go_ret
                  refine ⟨ret_int ?_, hB2⟩
                  rw [countV_def]
                  simp only [← HHL.out, hf]
                  rw [if_neg]
                  · rfl
                  · rintro (h | h | h | h)
                    · omega
                    · rw [hx.1] at h; omega
                    · rw [hx.1] at h; exact H3.out h
                    · rw [hp] at h; cases h

theorem count_at : ∀ (z : Val) (ok : Nat → Prop) (A : Option Addr) (c : Nat) (d q : Int) (w : World), Lib.Utf8Tabs 1 2 w → z.t.size ≤ big → Sl w ok z.is A z.is.length c → 0 ≤ d ∧ d ≤ 1000 → 0 ≤ q ∧ q ≤ 1000000 →
      Calls Tryd.prog 102 #[.agg #[.int .i64 z.k, .int .i64 z.n, .string z.t, .slice A z.is.length c], .int .i64 d, .int .i64 q] w fun e w' => e = .returned (.int .i64 (countV z d q)) ∧ Below w.heap.size w w' := by
  refine Val.ind (fun z ih => ?_)
  intro ok A c d q w hT hs hx hd hq
  cases z
  exact count_step _ _ d q _ _ ok A _ c w hT hs hx hd hq ih

/-- Is a value right? -/
noncomputable def rightB (x : Val) : Bool := decide (0 < countV x 16 1024)

theorem right_calls (k n : Int) (t : ByteArray) (l : List Val) (ok : Nat → Prop) (A : Option Addr) (m c : Nat) (w : World) (hT : Lib.Utf8Tabs 1 2 w) (hs : t.size ≤ big) (hx : Sl w ok l A m c) :
    Calls Tryd.prog 53 #[.agg #[.int .i64 k, .int .i64 n, .string t, .slice A m c]] w fun e w' => e = .returned (.bool (rightB ⟨k, n, t, l⟩)) ∧ Below w.heap.size w w' := by
  go_enter Tryd.func53, Tryd.ntmps53
  go_wp2_with fail
  refine (count_step k n 16 1024 t l ok A m c _ (Utf8Tabs_below hT ((Bl.refl _).al _)) hs (Sl_bl hx ((Bl.refl _).al _)) (by omega) (by omega) (fun z _ => count_at z)).mono ?_
  rintro e w1 ⟨rfl, hb⟩
  go_wp2
  go_ret
  exact ⟨rfl, ((Bl.refl _).al _).call hb⟩
theorem right_at (x : Val) (ok : Nat → Prop) (A : Option Addr) (c : Nat) (w : World) (hT : Lib.Utf8Tabs 1 2 w) (hs : x.t.size ≤ big) (hx : Sl w ok x.is A x.is.length c) :
    Calls Tryd.prog 53 #[.agg #[.int .i64 x.k, .int .i64 x.n, .string x.t, .slice A x.is.length c]] w fun e w' => e = .returned (.bool (rightB x)) ∧ Below w.heap.size w w' := by
  cases x; exact right_calls _ _ _ _ ok A _ c w hT hs hx

theorem check_calls (k n : Int) (t : ByteArray) (l : List Val) (ok : Nat → Prop) (A : Option Addr) (m c : Nat) (w : World) (hT : Lib.Utf8Tabs 1 2 w) (hs : t.size ≤ big) (hx : Sl w ok l A m c) :
    Calls Tryd.prog 16 #[.agg #[.int .i64 k, .int .i64 n, .string t, .slice A m c]] w fun e w' => e = .returned (.int .i64 (if rightB ⟨k, n, t, l⟩ = true then 0 else 3)) ∧ Below w.heap.size w w' := by
  cases hr : rightB ⟨k, n, t, l⟩ <;> (
    go_enter Tryd.func16, Tryd.ntmps16
    go_wp2_with fail
    refine (right_calls _ _ _ _ _ _ _ _ _ (Utf8Tabs_below hT ((Bl.refl _).al _)) hs (Sl_bl hx ((Bl.refl _).al _))).mono ?_
    rintro e w1 ⟨rfl, hb⟩
    go_wp2
    go_ret
    exact ⟨rfl, ((Bl.refl _).al _).call hb⟩)
theorem check_at (x : Val) (ok : Nat → Prop) (A : Option Addr) (c : Nat) (w : World) (hT : Lib.Utf8Tabs 1 2 w) (hs : x.t.size ≤ big) (hx : Sl w ok x.is A x.is.length c) :
    Calls Tryd.prog 16 #[.agg #[.int .i64 x.k, .int .i64 x.n, .string x.t, .slice A x.is.length c]] w fun e w' => e = .returned (.int .i64 (if rightB x = true then 0 else 3)) ∧ Below w.heap.size w w' := by
  cases x; exact check_calls _ _ _ _ ok A _ c w hT hs hx
end Go.Proofs.YtmbgaaoneaplmaaDoor
