/- Walks: value.utf. -/
import Derived.Test.YtmbgaaoneaplmaaDoorP0
import Derived.Test.YtmbgaaoneaplmaaDoorShelf
import Derived.Lib.ValidLaws
import Derived.Lib.IndexBytes
namespace Go.Proofs.YtmbgaaoneaplmaaDoor
open Go.RowKit

/-- The iterator in block k stands at p. -/
def setIter (w : World) (k : Nat) (s : ByteArray) (p : Nat) : World := { w with heap := w.heap.setIfInBounds k (.stringIter s p) }
theorem setIter_at {w : World} {k : Nat} {s : ByteArray} {p : Nat} (h : k < w.heap.size) : (setIter w k s p).heap[k]? = some (.stringIter s p) := by
  simp [setIter, h]
theorem setIter_below {w : World} (k : Nat) (s : ByteArray) (p : Nat) : Below k w (setIter w k s p) :=
  ⟨rfl, rfl, rfl, by simp [setIter], fun i hi => by simp [setIter, Nat.ne_of_gt hi]⟩
theorem run_next_more {P : Program} (w : World) (k : Nat) (s : ByteArray) (pos : Nat) (hk : w.heap[k]? = some (.stringIter s pos)) (h : pos < s.size) (ty : TypeId) :
    (Instr.next (.pointer (some ⟨k, 0, none⟩)) true ty).run P w = .ok (.tuple #[.bool true, .int .i64 pos, .int .i32 (Utf8.decode s pos).1]) (setIter w k s (pos + (Utf8.decode s pos).2)) := by
  simp only [Instr.next, getObj, setObj, Sem.run_bind, Sem.run, hk, Result.andThen, h, if_true]
  simp [goInt, setIter]
theorem run_next_over {P : Program} (w : World) (k : Nat) (s : ByteArray) (pos : Nat) (hk : w.heap[k]? = some (.stringIter s pos)) (h : ¬ pos < s.size) (ty : TypeId) :
    (Instr.next (.pointer (some ⟨k, 0, none⟩)) true ty).run P w = .ok (.tuple #[.bool false]) w := by
  simp [Instr.next, getObj, Sem.run, hk, h]

/-- Is a text UTF-8? -/
def utfB (s : ByteArray) : Bool := Lib.validD s.data.toList

theorem width_le (s : ByteArray) (pos : Nat) (h : pos < s.size) : pos + (Utf8.decode s pos).2 ≤ s.size := by
  have := Lib.decodeL_le (s.data.toList.drop pos) (by intro h; have := congrArg List.length h; simp at this; omega)
  rw [Lib.decodeL_drop] at this
  simp at this
  omega
theorem decodeGo_drop (s : ByteArray) (p : Nat) (h : p < s.size) : Lib.decodeGo (s.extract p s.size) = Utf8.decode s p := by
  have h1 := Lib.decodeL_drop (s.extract p s.size) 0
  rw [List.drop_zero] at h1
  unfold Lib.decodeGo
  rw [if_neg (by simp; omega), ← h1, Lib.extract_to_end, Lib.decodeL_drop]

set_option maxHeartbeats 400000 in
set_option maxRecDepth 100000 in
theorem utf_calls (s : ByteArray) (w : World) (hT : Lib.Utf8Tabs 1 2 w) (hs : s.size ≤ big) :
    Calls Tryd.prog 168 #[.string s] w fun e w' => e = .returned (.bool (utfB s)) ∧ Below w.heap.size w w' := by
  have hs' : s.size ≤ 140737488355328 := hs
  go_enter Tryd.func168, Tryd.ntmps168
  go_wp2
  go_loopw [] (fun wr => ∃ p : Nat, p ≤ s.size ∧ wr.heap[w.heap.size]? = some (.stringIter s p) ∧ Hid (Lib.validD (s.data.toList.drop p) = utfB s) ∧ Below w.heap.size w wr) (fun wr => s.size - wr.iterPos w.heap.size)
  case atStart => exact ⟨0, by omega, World.iter_heap w s 0, Lib.hid (by simp [utfB]), (Bl.refl _).al _⟩
  case round =>
    obtain ⟨p, hp, hit, HV, hB⟩ := hrel
    have HIT := Lib.hid hit
    have hlt0 : w.heap.size < wr.heap.size := by
      rcases Nat.lt_or_ge w.heap.size wr.heap.size with h | h
      · exact h
      · rw [Array.getElem?_eq_none h] at hit; cases hit
    by_cases hlt : p < s.size
    · have hnx := fun ty => run_next_more (P := Tryd.prog) wr w.heap.size s p hit hlt ty
      have hW : Below w.heap.size w (setIter wr w.heap.size s (p + (Utf8.decode s p).2)) := hB.trans (setIter_below _ _ _)
      have hI := setIter_at (s := s) (p := p + (Utf8.decode s p).2) hlt0
      have hst := Lib.validD_step (s.data.toList.drop p) (by intro h; have := congrArg List.length h; simp at this; omega)
      rw [Lib.decodeL_drop s p] at hst
      have hle := width_le s p hlt
      have hpos := Lib.width_pos s p
      have HI := Lib.hid hI
      have HST := Lib.hid hst
      clear hit hI hst
      by_cases hr : (Utf8.decode s p).1 = 65533
      · have hr' : (((Utf8.decode s p).1 : Int) == 65533) = true := by simp; omega
        have HR := Lib.hid hr
        clear hr
        go_wp2_with fail
        refine (Tryd.utf8_DecodeRuneInString _ _ (Utf8Tabs_below hT hW)).mono ?_
        rintro e w1 ⟨rfl, hb⟩
        rw [decodeGo_drop s p hlt]
        have hB1 : Below w.heap.size w w1 := hW.call hb
        have HI1 : Hid (w1.heap[w.heap.size]? = some (.stringIter s (p + (Utf8.decode s p).2))) := Lib.hid (by rw [hb.block _ (Array.getElem?_eq_some_iff.1 HI.out).1]; exact HI.out)
        by_cases hw : (Utf8.decode s p).2 = 1
        · have hw' : (((Utf8.decode s p).2 : Int) == 1) = true := by simp; omega
          have HW := Lib.hid hw
          clear hw
          go_wp2
          go_ret
          exact ⟨by rw [← HV.out, HST.out, if_pos ⟨HR.out, HW.out⟩]; rfl, hB1⟩
        · have hw' : (((Utf8.decode s p).2 : Int) == 1) = false := by simp; omega
          have HW := Lib.hid hw
          clear hw
          go_wp2
          go_roundw
          case rel => exact ⟨p + (Utf8.decode s p).2, by omega, HI1.out, Lib.hid (by rw [← HV.out, HST.out, if_neg (fun h => HW.out h.2), List.drop_drop]), hB1⟩
          case measure => simp [World.iterPos, HI1.out, HIT.out]; omega
      · have hr' : (((Utf8.decode s p).1 : Int) == 65533) = false := by simp; omega
        have HR := Lib.hid hr
        clear hr
        go_wp2
        go_roundw
        case rel => exact ⟨p + (Utf8.decode s p).2, by omega, HI.out, Lib.hid (by rw [← HV.out, HST.out, if_neg (fun h => HR.out h.1), List.drop_drop]), hW⟩
        case measure => simp [World.iterPos, HI.out, HIT.out]; omega
    · have hnx := fun ty => run_next_over (P := Tryd.prog) wr w.heap.size s p hit hlt ty
      clear hit
      go_wp2
      go_ret
      exact ⟨by rw [← HV.out, List.drop_eq_nil_of_le (by simp; omega), Lib.validD_nil]; rfl, hB⟩
end Go.Proofs.YtmbgaaoneaplmaaDoor
