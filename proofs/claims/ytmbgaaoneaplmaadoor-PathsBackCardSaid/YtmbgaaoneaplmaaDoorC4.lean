/- Walks: paths.part. -/
import Derived.Test.YtmbgaaoneaplmaaDoorC3
namespace Go.Proofs.YtmbgaaoneaplmaaDoor
open Go.RowKit

/-- The part of a value at a step, and whether there is one. -/
def partF (v s : Val) : Val × Bool :=
  if v.k = 6 then (if (keyF v.is s 0).2 = true then (v.is.getD ((keyF v.is s 0).1 + 1) vz, true) else (vz, false))
  else if v.k = 4 then (if idxOk v.is.length s.k s.n = true then (v.is.getD s.n.toNat vz, true) else (vz, false))
  else if v.k = 5 then (if v.is.any (eqB s) = true then (s, true) else (vz, false))
  else (vz, false)

theorem keyF_lt : ∀ (l : List Val) (s : Val) (i : Nat), l.length % 2 = 0 → (keyF l s i).2 = true → (keyF l s i).1 + 1 < i + l.length
  | [], s, i, _, h => by simp [keyF] at h
  | [x], s, i, he, h => by simp at he
  | x :: y :: r, s, i, he, h => by
    simp only [keyF] at h ⊢
    split
    · simp
    · rename_i hn
      rw [if_neg hn] at h
      have := keyF_lt r s (i + 2) (by simp at he; omega) h
      simp; omega

theorem key_calls' {i : Nat} {b : Bool} (k n sk sn : Int) (t st : ByteArray) (l sl : List Val) (ok ok' : Nat → Prop) (A B : Option Addr) (m c p d : Nat) (w : World) (hx : Sl w ok l A m c) (hs : Sl w ok' sl B p d) (hr : keyF l ⟨sk, sn, st, sl⟩ 0 = (i, b)) :
    Calls Tryd.prog 97 #[.agg #[.int .i64 k, .int .i64 n, .string t, .slice A m c], .agg #[.int .i64 sk, .int .i64 sn, .string st, .slice B p d]] w fun e w' =>
      e = .returned (.tuple #[.int .i64 i, .bool b]) ∧ Below w.heap.size w w' := by
  have := key_calls k n sk sn t st l sl ok ok' A B m c p d w hx hs
  rwa [hr] at this

/-- What a part's call has laid: its two arguments' boxes, and the result's variable. -/
theorem three_boxes (w w1 : World) (k n sk sn : Int) (t st : ByteArray) (A B : Option Addr) (m c p d : Nat)
    (hb : Below (((w.alloc (.cells #[.int .i64 k, .int .i64 n, .string t, .slice A m c] 24)).alloc (.cells #[.int .i64 sk, .int .i64 sn, .string st, .slice B p d] 24)).alloc (.cells #[.int .i64 0, .int .i64 0, .string ⟨#[]⟩, .slice none 0 0] 24)).heap.size (((w.alloc (.cells #[.int .i64 k, .int .i64 n, .string t, .slice A m c] 24)).alloc (.cells #[.int .i64 sk, .int .i64 sn, .string st, .slice B p d] 24)).alloc (.cells #[.int .i64 0, .int .i64 0, .string ⟨#[]⟩, .slice none 0 0] 24)) w1) :
    BoxAt w1 w.heap.size k n t A m c ∧ BoxAt w1 (w.heap.size + 1) sk sn st B p d ∧ VarAt w1 (w.heap.size + 1 + 1) 0 0 ⟨#[]⟩ none 0 0 ∧ Below w.heap.size w w1 := by
  refine ⟨((BoxAt.new w k n t A m c 24).later (((Bl.refl _).al _).al _)).later hb, ?_, ?_, ((((Bl.refl _).al _).al _).al _).call hb⟩
  · have := ((BoxAt.new (w.alloc (.cells #[.int .i64 k, .int .i64 n, .string t, .slice A m c] 24)) sk sn st B p d 24).later ((Bl.refl _).al _)).later hb
    simpa using this
  · have := (VarAt.new ((w.alloc (.cells #[.int .i64 k, .int .i64 n, .string t, .slice A m c] 24)).alloc (.cells #[.int .i64 sk, .int .i64 sn, .string st, .slice B p d] 24)) 0 0 ⟨#[]⟩ none 0 0 24).later hb
    simpa using this

set_option maxHeartbeats 1000000 in
set_option maxRecDepth 100000 in
theorem part_map_hit (n sk sn : Int) (t st : ByteArray) (l sl : List Val) (ok : Nat → Prop) (A B : Option Addr) (m c p d i : Nat) (y : Val) (w : World) (hx : Sl w ok l A m c) (hs : Sl w ok sl B p d) (hr : keyF l ⟨sk, sn, st, sl⟩ 0 = (i, true)) (hy : l[i + 1]? = some y) :
    Calls Tryd.prog 94 #[.agg #[.int .i64 6, .int .i64 n, .string t, .slice A m c], .agg #[.int .i64 sk, .int .i64 sn, .string st, .slice B p d]] w (RetV2 ok y (.bool true) w) := by
  have hm : m ≤ 140737488355328 := hx.le
  have hi : i + 1 < m := by have := (List.getElem?_eq_some_iff.1 hy).1; rw [hx.1] at this; exact this
  have HY := Lib.hid hy
  have HR := Lib.hid hr
  clear hy hr
  go_enter Tryd.func94, Tryd.ntmps94
  go_wp2_with fail
  refine (key_calls' _ _ _ _ _ _ _ _ _ _ _ _ _ _ _ _ _ (Sl_bl hx ((((Bl.refl _).al _).al _).al _)) (Sl_bl hs ((((Bl.refl _).al _).al _).al _)) HR.out).mono ?_
  rintro e w1 ⟨rfl, hb⟩
  obtain ⟨hv0, _, hv2, hB1⟩ := three_boxes w w1 6 n sk sn t st A B m c p d hb
  obtain ⟨a0, a1, a2, a3⟩ := hv0
  have HV2 := Lib.hid hv2
  obtain ⟨⟨z0, z1, z2, z3⟩, f0, f1, f2, f3⟩ := hv2
  obtain ⟨bx, ox, Ax, cx, rfl, _, hbx, ex0, ex1, ex2, ex3, hsz, Sx⟩ := RepL_get (Sl_bl (Sl_bound hx) hB1).2.2.2 HY.out
  have i0 : (0 : Int) ≤ (i : Int) + 1 := by omega
  have i1 : (i : Int) + 1 < (m : Int) := by omega
  have i2 : ((i : Int) + 1).toNat = i + 1 := by omega
  go_wp2
  have hfin := (set4_var (k := y.k) (n := y.n) (t := y.t) (A := Ax) (m := y.is.length) (c := cx) HV2.out).1
  obtain ⟨q0, q1, q2, q3⟩ := hfin
  change bodyPost _ _ _ _ _ (set4 w1 (w.heap.size + 1 + 1) y.k y.n y.t Ax y.is.length cx)
  refine bodyPost_ret (v := .tuple #[.agg #[.int .i64 y.k, .int .i64 y.n, .string y.t, .slice Ax y.is.length cx], .bool true]) (by simp [results, Tryd.results94, go_sem, q0, q1, q2, q3]) rfl ⟨_, rfl, ?_, set4_below hB1 (by omega)⟩
  exact (((IsV.at hsz Sx).mono (fun k hk _ => hk)).set4 (by omega) _ _ _ _ _ _).mono (fun k hk _ => hk.1)

set_option maxHeartbeats 1000000 in
set_option maxRecDepth 100000 in
theorem part_map_miss (n sk sn : Int) (t st : ByteArray) (l sl : List Val) (ok : Nat → Prop) (A B : Option Addr) (m c p d i : Nat) (w : World) (hx : Sl w ok l A m c) (hs : Sl w ok sl B p d) (hr : keyF l ⟨sk, sn, st, sl⟩ 0 = (i, false)) :
    Calls Tryd.prog 94 #[.agg #[.int .i64 6, .int .i64 n, .string t, .slice A m c], .agg #[.int .i64 sk, .int .i64 sn, .string st, .slice B p d]] w (RetV2 ok vz (.bool false) w) := by
  have hm : m ≤ 140737488355328 := hx.le
  have HR := Lib.hid hr
  clear hr
  go_enter Tryd.func94, Tryd.ntmps94
  go_wp2_with fail
  refine (key_calls' _ _ _ _ _ _ _ _ _ _ _ _ _ _ _ _ _ (Sl_bl hx ((((Bl.refl _).al _).al _).al _)) (Sl_bl hs ((((Bl.refl _).al _).al _).al _)) HR.out).mono ?_
  rintro e w1 ⟨rfl, hb⟩
  obtain ⟨_, _, hv2, hB1⟩ := three_boxes w w1 6 n sk sn t st A B m c p d hb
  have HV2 := Lib.hid hv2
  obtain ⟨⟨z0, z1, z2, z3⟩, f0, f1, f2, f3⟩ := hv2
  go_wp2
  have hfin := (set4_var (k := 0) (n := 0) (t := ⟨#[]⟩) (A := none) (m := 0) (c := 0) HV2.out).1
  obtain ⟨q0, q1, q2, q3⟩ := hfin
  change bodyPost _ _ _ _ _ (set4 w1 (w.heap.size + 1 + 1) 0 0 ⟨#[]⟩ none 0 0)
  refine bodyPost_ret (v := .tuple #[.agg #[.int .i64 0, .int .i64 0, .string ⟨#[]⟩, .slice none 0 0], .bool false]) (by simp [results, Tryd.results94, go_sem, q0, q1, q2, q3]) rfl ⟨_, rfl, IsV_vz _ _, set4_below hB1 (by omega)⟩
end Go.Proofs.YtmbgaaoneaplmaaDoor
