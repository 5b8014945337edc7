/- Walks: paths.asked, paths.index, paths.key. -/
import Derived.Test.YtmbgaaoneaplmaaDoorB7
namespace Go.Proofs.YtmbgaaoneaplmaaDoor
open Go.RowKit

/-- What is wrong with a path. -/
noncomputable def askF (l : List Val) : Int := if 16 < l.length then 2 else if l.all rightB = true then 0 else 3

set_option maxHeartbeats 1000000 in
set_option maxRecDepth 100000 in
theorem asked_calls (l : List Val) (ok : Nat → Prop) (A : Option Addr) (m c : Nat) (w : World) (hT : Lib.Utf8Tabs 1 2 w) (hx : Sl w ok l A m c) :
    Calls Tryd.prog 42 #[.slice A m c] w fun e w' => e = .returned (.int .i64 (askF l)) ∧ Below w.heap.size w w' := by
  have hm : m ≤ 140737488355328 := hx.le
  have HT := Lib.hid hT
  clear hT
  by_cases h1 : 16 < m
  · go_enter Tryd.func42, Tryd.ntmps42
    go_wp2
    go_ret
    exact ⟨ret_int (by simp [askF, hx.1, h1]), Bl.refl _⟩
  · go_enter Tryd.func42, Tryd.ntmps42
    go_wp2
    go_loopw [11] (fun i wr => ∃ j : Nat, i = .int .i64 j ∧ j ≤ m ∧ Hid (∀ q x, q < j → l[q]? = some x → rightB x = true) ∧ Below w.heap.size w wr) (fun i _ => m - (intOf i).toNat)
    case atStart => exact ⟨0, rfl, by omega, Lib.hid (by intros; omega), Bl.refl _⟩
    case round =>
      obtain ⟨j, rfl, hj, HK, hB⟩ := hrel
      by_cases hlt : j < m
      · obtain ⟨x, hxi⟩ : ∃ x, l[j]? = some x := ⟨l[j]'(by rw [hx.1]; exact hlt), List.getElem?_eq_getElem _⟩
        obtain ⟨bx, ox, Ax, cx, rfl, _, hbx, ex0, ex1, ex2, ex3, hsz, Sx⟩ := RepL_get (Sl_bl hx hB).2.2.2 hxi
        have HXI := Lib.hid hxi
        clear hxi
        cases hr : rightB x with
        | true =>
          go_wp2_with fail
          refine (check_at x _ _ _ _ (Utf8Tabs_below HT.out (hB.al _)) hsz (Sl_bl Sx ((Bl.refl _).al _))).mono ?_
          rintro e w1 ⟨rfl, hb⟩
          have hB1 : Below w.heap.size w w1 := (hB.al _).call hb
          go_wp2
          go_roundw
          case rel =>
            refine ⟨j + 1, by go_num, by omega, Lib.hid (fun q a hq ha => ?_), hB1⟩
            rcases Nat.lt_or_ge q j with h | h
            · exact HK.out q a h ha
            · obtain rfl : q = j := by omega
              rw [HXI.out] at ha
              injection ha with ha
              subst ha; exact hr
          case measure => simp [intOf]; omega
        | false =>
          go_wp2_with fail
          refine (check_at x _ _ _ _ (Utf8Tabs_below HT.out (hB.al _)) hsz (Sl_bl Sx ((Bl.refl _).al _))).mono ?_
          rintro e w1 ⟨rfl, hb⟩
          have hB1 : Below w.heap.size w w1 := (hB.al _).call hb
          go_wp2
          go_ret
          refine ⟨ret_int ?_, hB1⟩
          have : l.all rightB = false := by
            rw [List.all_eq_false]
            exact ⟨x, List.mem_of_getElem? HXI.out, by simp [hr]⟩
          simp [askF, hx.1, this]; omega
      · obtain rfl : j = m := by omega
        go_wp2
        go_ret
        refine ⟨ret_int ?_, hB⟩
        have : l.all rightB = true := by
          rw [List.all_eq_true]
          intro x hxm
          obtain ⟨q, hq⟩ := List.getElem?_of_mem hxm
          exact HK.out q x (by have := (List.getElem?_eq_some_iff.1 hq).1; rw [hx.1] at this; exact this) hq
        simp [askF, hx.1, this]; omega

/-- A step's place in a list. -/
def idxOk (len : Nat) (k n : Int) : Bool := decide (k = 2 ∧ 0 ≤ n ∧ n < len)

set_option maxHeartbeats 1000000 in
set_option maxRecDepth 100000 in
theorem index_calls (k n sk sn : Int) (t st : ByteArray) (A B : Option Addr) (m c p d : Nat) (w : World) (hm : m ≤ big) :
    Calls Tryd.prog 95 #[.agg #[.int .i64 k, .int .i64 n, .string t, .slice A m c], .agg #[.int .i64 sk, .int .i64 sn, .string st, .slice B p d]] w fun e w' =>
      e = .returned (.tuple #[.int .i64 (if idxOk m sk sn = true then sn else 0), .bool (idxOk m sk sn)]) ∧ Below w.heap.size w w' := by
  have hm' : m ≤ 140737488355328 := hm
  by_cases h1 : sk = 2
  · by_cases h2 : sn < 0
    · have hi : idxOk m sk sn = false := by simp [idxOk]; omega
      rw [hi, if_neg (by decide)]
      clear hi
      subst h1
      go_enter Tryd.func95, Tryd.ntmps95
      go_wp2
      go_ret2
      exact ⟨rfl, ((Bl.refl _).al _).al _⟩
    · by_cases h3 : (m : Int) ≤ sn
      · have hi : idxOk m sk sn = false := by simp [idxOk]; omega
        rw [hi, if_neg (by decide)]
        clear hi
        subst h1
        go_enter Tryd.func95, Tryd.ntmps95
        go_wp2
        go_ret2
        exact ⟨rfl, ((Bl.refl _).al _).al _⟩
      · have hi : idxOk m sk sn = true := by simp [idxOk]; omega
        rw [hi, if_pos rfl]
        clear hi
        subst h1
        go_enter Tryd.func95, Tryd.ntmps95
        go_wp2
        go_ret2
        exact ⟨rfl, ((Bl.refl _).al _).al _⟩
  · have hi : idxOk m sk sn = false := by simp [idxOk]; omega
    rw [hi, if_neg (by decide)]
    clear hi
    have h1' : (sk != 2) = true := by simp [h1]
    go_enter Tryd.func95, Tryd.ntmps95
    go_wp2
    go_ret2
    exact ⟨rfl, ((Bl.refl _).al _).al _⟩

end Go.Proofs.YtmbgaaoneaplmaaDoor
