/- Plain facts: what the law's own little program answers. -/
import Derived.Test.YtmbgaaoneaplmaaDoorF1
namespace Go.Proofs.YtmbgaaoneaplmaaDoor
open Go.RowKit

theorem formB_nil (k : Int) : formB k [] = true := by
  unfold formB Rises
  split
  · rfl
  · split
    · simp
    · split
      · simp
      · simp
theorem formB_pair (a b : Val) : formB 6 [a, b] = true := by
  unfold formB Rises
  rw [if_neg (by decide), if_pos rfl, if_neg (by simp)]
  simp only [decide_eq_true_eq]
  intro i x y _ _ h
  simp at h
theorem countV_leaf {k n : Int} {t : ByteArray} (h : plainB k n t = true) {d m : Int} (hm : 1 ≤ m) : countV ⟨k, n, t, []⟩ d m = 1 := by
  rw [countV_def, if_neg (by simp [h]; omega)]
  simp only [countL, formB_nil, if_true]
theorem right_leaf {k n : Int} {t : ByteArray} (h : plainB k n t = true) : rightB ⟨k, n, t, []⟩ = true := by
  unfold rightB; rw [countV_leaf h (by decide)]; rfl
theorem plainB_nil : plainB 0 0 ⟨#[]⟩ = true := by simp [plainB, ByteArray.toList_eq]
theorem plainB_int (n : Int) : plainB 2 n ⟨#[]⟩ = true := by simp [plainB, ByteArray.toList_eq]
theorem plainB_coll {k : Int} (h : k = 4 ∨ k = 5 ∨ k = 6) : plainB k 0 ⟨#[]⟩ = true := by
  rcases h with rfl | rfl | rfl <;> simp [plainB, ByteArray.toList_eq]
theorem plainB_a : plainB 3 0 ⟨#[97]⟩ = true := by
  have : utfB ⟨#[97]⟩ = true := by decide
  simp [plainB, this, ByteArray.size]
theorem plainB_b : plainB 3 0 ⟨#[98]⟩ = true := by
  have : utfB ⟨#[98]⟩ = true := by decide
  simp [plainB, this, ByteArray.size]

def va : Val := ⟨3, 0, ⟨#[97]⟩, []⟩
def vb : Val := ⟨3, 0, ⟨#[98]⟩, []⟩
def vnum (n : Int) : Val := ⟨2, n, ⟨#[]⟩, []⟩
def vlist : Val := ⟨4, 0, ⟨#[]⟩, []⟩
def vin : Val := ⟨6, 0, ⟨#[]⟩, [vb, vnum 1]⟩
def vsp : Val := ⟨6, 0, ⟨#[]⟩, [va, vin]⟩
theorem right_vz : rightB vz = true := right_leaf plainB_nil
theorem right_va : rightB va = true := right_leaf plainB_a
theorem right_vb : rightB vb = true := right_leaf plainB_b
theorem right_num (n : Int) : rightB (vnum n) = true := right_leaf (plainB_int n)
theorem right_vlist : rightB vlist = true := right_leaf (plainB_coll (.inl rfl))
theorem count_va {d m : Int} (hm : 1 ≤ m) : countV va d m = 1 := countV_leaf plainB_a hm
theorem count_vb {d m : Int} (hm : 1 ≤ m) : countV vb d m = 1 := countV_leaf plainB_b hm
theorem count_num {d m : Int} (n : Int) (hm : 1 ≤ m) : countV (vnum n) d m = 1 := countV_leaf (plainB_int n) hm
theorem count_vin {d m : Int} (hd : d ≠ 0) (hm : 4 ≤ m) : countV vin d m = 3 := by
  unfold vin
  rw [countV_def, if_neg (by simp [plainB_coll]; omega)]
  simp only [countL]
  rw [count_vb (by omega), if_neg (by decide), count_num _ (by omega), if_neg (by decide), formB_pair]
  rfl
theorem count_vsp : countV vsp 16 1024 = 5 := by
  unfold vsp
  rw [countV_def, if_neg (by simp [plainB_coll])]
  simp only [countL]
  rw [count_va (by omega), if_neg (by decide), count_vin (by omega) (by omega), if_neg (by decide), formB_pair]
  rfl
theorem right_vsp : rightB vsp = true := by
  unfold rightB
  rw [count_vsp]
  rfl
theorem ask_ab : askF [va, vb] = 0 := by simp [askF, right_va, right_vb]
theorem ask_num (n : Int) : askF [vnum n] = 0 := by simp [askF, right_num]
theorem put_vz : putF vz [va, vb] (vnum 1) = some vsp := by
  simp [putF, partF, vz, keyF, vsp, vin]
theorem putG_sp : putG vz [va, vb] (vnum 1) = (vsp, 0) := by
  unfold putG
  rw [if_neg (by rw [right_vz]; decide), if_neg (by rw [ask_ab]; decide), if_neg (by rw [right_num]; decide), put_vz]
  simp only [caughtF, right_vsp, if_true]
theorem getF_sp : getF vsp [va, vb] = (vnum 1, true, 0) := by
  unfold getF
  rw [if_neg (by rw [right_vsp]; decide), if_neg (by rw [ask_ab]; decide)]
  rw [get_put (v := vz) (x := vnum 1) EvV_vz (ask_ev ask_ab) put_vz]
theorem putG_no : putG vlist [vnum 3] va = (vz, 260) := by
  unfold putG
  rw [if_neg (by rw [right_vlist]; decide), if_neg (by rw [ask_num]; decide), if_neg (by rw [right_va]; decide)]
  have : putF vlist [vnum 3] va = none := by simp [putF, vlist, vnum, idxOk]
  rw [this]; rfl
end Go.Proofs.YtmbgaaoneaplmaaDoor
