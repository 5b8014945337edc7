/- PathsBack: for every input the law returns true, and each argument reads behind the call as it read before. -/
import Derived.Test.YtmbgaaoneaplmaaDoorR3
import Derived.Test.YtmbgaaoneaplmaaDoorG2
namespace Go.Proofs.YtmbgaaoneaplmaaDoor.back
open Go.ChangeShapes Go.WideShapes Go.ChangeAt Go.RowKit Go.Lib

theorem witness_row (os : Os) {H : Type} (enc : TypeId × Value → H) :
    (OpenSpec.ofChange Rows.pathsBackSpec).preRow enc Tryd.prog Tryd.f4 Rows.pathsBackRow.domain false Rows.pathsBackRow.laid ((laidWorld os).forCall (fun _ _ => 0) ⟨#[], #[nilV, .slice none 0 0, nilV], []⟩).memory #[nilV, .slice none 0 0, nilV] := by
  have hw : (DataW.whole enc Tryd.prog ((laidWorld os).forCall (fun _ _ => 0) ⟨#[], #[nilV, .slice none 0 0, nilV], []⟩).memory Tryd.f4.params.toList Rows.pathsBackSpec.vars false #[nilV, .slice none 0 0, nilV].toList 8).map (fun x => (x.1, x.2.1)) =
      some ([nilD, .nil, nilD], []) := by kernel_rfl
  obtain ⟨⟨x1, x2, x3⟩, hx, hx1⟩ := Option.map_eq_some_iff.1 hw
  simp only [Prod.mk.injEq] at hx1
  obtain ⟨rfl, rfl⟩ := hx1
  exact OpenSpec.preRow_of_cond 8 hx (by kernel_rfl) (fun k hk => by cases hk) (by kernel_rfl) (laid_met os _)

set_option maxRecDepth 100000 in
set_option maxHeartbeats 2000000 in
theorem lifted (os : Os) (started : os.Started) (H : Type) (enc : TypeId × Value → H) (F : Stop.Interp) :
    ReturnsInHanded {} Tryd.checked os 4 .any ((OpenSpec.ofChange Rows.pathsBackSpec).preRow enc Tryd.prog Tryd.f4 Rows.pathsBackRow.domain false Rows.pathsBackRow.laid) (((OpenSpec.ofChange Rows.pathsBackSpec).at F).post enc Tryd.prog Tryd.f4 false true false false) := by
  refine returnsInHanded_of_row (C := Tryd.checked) (s := OpenSpec.ofChange Rows.pathsBackSpec) own_knob started (by kernel_rfl) Tryd.func4
    (witness_row_atRef (enc := enc) (C := Tryd.checked) false (laidWorld os) #[nilV, .slice none 0 0, nilV] rfl (by kernel_rfl) (by kernel_rfl) (by kernel_rfl) (witness_row os enc)) ?_
  intro W base args ds gs before hval0 hW _ _ hsz hL _ _
  have hval : ∀ (j : Nat) t v, Tryd.f4.params[j]? = some t → args[j]? = some v → Value.okWide Tryd.prog W .any base t v := hval0
  have hW' := hW
  obtain ⟨p, q, hA0, hV0, rfl, _, _⟩ := hW
  have hA : DataW.TrodAll enc Tryd.prog W 0 (fun _ => true) true Tryd.f4.params.toList args.toList ds p := hA0
  rw [Tryd.params4] at hA hval
  obtain ⟨v0, v1, v2, d0, d1, d2, p0, p1, p2, rfl, rfl, rfl, h0, h1, h2⟩ := trodAll_three hA
  obtain ⟨rfl, rfl⟩ := trodVars_none hV0
  have hsz' : ∀ n ∈ DataW.weightsEach Tryd.prog (Tryd.f4.params.toList ++ (OpenSpec.ofChange Rows.pathsBackSpec).bare.plain.varTypes Tryd.prog) ([d0, d1, d2] ++ []), n ≤ reachBytes := fun n hn => by simpa using List.all_eq_true.1 hsz n hn
  rw [Tryd.params4] at hsz'
  obtain ⟨x, A, c, rfl, hxt, hx⟩ := open_val h0 (fun n hn => hsz' n (DataW.weights_mem_each (j := 0) rfl rfl n hn)) (by obtain ⟨cs, h, _⟩ := okWide_struct Tryd.underlying24 (hval 0 24 v0 rfl rfl); exact ⟨cs, h⟩)
  obtain ⟨l, B, m, d, rfl, hl⟩ := open_vals h1 (fun n hn => hsz' n (DataW.weights_mem_each (j := 1) rfl rfl n hn)) (okWide_slice Tryd.underlying22 (hval 1 22 v1 rfl rfl))
  obtain ⟨y, D, e, rfl, hyt, hy⟩ := open_val h2 (fun n hn => hsz' n (DataW.weights_mem_each (j := 2) rfl rfl n hn)) (by obtain ⟨cs, h, _⟩ := okWide_struct Tryd.underlying24 (hval 2 24 v2 rfl rfl); exact ⟨cs, h⟩)
  clear hA0 hV0 hval0
  refine (back_calls x y l A B D c m d e W (tabs hL) hx hxt hl hy hyt).mono ?_
  rintro en W' ⟨rfl, bel⟩
  have hlt : ∀ z ∈ p0 ++ p1 ++ p2, z.block < W.heap.size := fun z hz => by simpa using hW'.lt z (by simpa using hz)
  have t0 := Below.trod laid_out (by kernel_rfl) (of_decide_eq_true (by kernel_rfl)) h0 bel (fun z hz => hlt z (by simp [hz]))
  have t1 := Below.trod laid_out (by kernel_rfl) (of_decide_eq_true (by kernel_rfl)) h1 bel (fun z hz => hlt z (by simp [hz]))
  have t2 := Below.trod laid_out (by kernel_rfl) (of_decide_eq_true (by kernel_rfl)) h2 bel (fun z hz => hlt z (by simp [hz]))
  refine ⟨_, rfl, _, _, _, [], p0 ++ (p1 ++ p2), [], hW', ?_, ?_, ?_, bel.frame _, fun h => by cases h⟩
  · exact trodAll_mk1 (shut_bool Tryd.underlying4 _)
  · exact trodAll_mk3 t0 t1 t2
  · rfl

theorem said : Rows.PathsBackSaid :=
  OpenClaim.holds_of_cond 4 Tryd.f4 rfl rfl rfl rfl rfl rfl rfl ⟨rfl, rfl, rfl, rfl, rfl⟩ rfl rfl rfl rfl rfl (by kernel_rfl) Tryd.func4 (by kernel_rfl)
    (of_decide_eq_true (by kernel_rfl)) (by unfold Func.isWrapper; first | (rw [if_pos (by decide +kernel)]; kernel_rfl) | (rw [if_neg (by decide +kernel)]; exact ⟨rfl, rfl⟩))
    (fun os started H enc _ F => by rw [OpenClaim.pre_eq_preRow]; exact lifted os started H enc F)

theorem plain (f : FuncId) (fn : Func) (hf : Tryd.pinned.checked.prog.funcNamed "spinney/spinneylaw26.PathsBack" = some f) (hfn : Tryd.pinned.checked.prog.funcs[f]? = some fn) :
    true = Tryd.pinned.checked.prog.looks [] ∧ ∀ (j : Nat) t, fn.params[j]? = some t → Tryd.pinned.checked.prog.wantsStandIn t = false := by
  obtain rfl : f = 4 := Option.some.inj ((show Tryd.prog.funcNamed "spinney/spinneylaw26.PathsBack" = some 4 by kernel_rfl).symm.trans hf) |>.symm
  obtain rfl : fn = Tryd.f4 := (Option.some.inj (Tryd.func4.symm.trans hfn)).symm
  refine ⟨by kernel_rfl, fun j t ht => ?_⟩
  rw [Tryd.params4] at ht
  have hm := Array.mem_of_getElem? ht
  simp at hm
  rcases hm with rfl | rfl | rfl
  · exact (show Tryd.prog.wantsStandIn 24 = false by kernel_rfl)
  · exact (show Tryd.prog.wantsStandIn 22 = false by kernel_rfl)
  · exact (show Tryd.prog.wantsStandIn 24 = false by kernel_rfl)

/-- THE CARD. -/
theorem PathsBack_holds : Rows.PathsBackCardSaid :=
  Claim7.holds_tied_plain_at .later [] _ _ _ _ said (fun _ h => by cases h) (by kernel_rfl) (fun _ h => by cases h) pathsBack_row_tie rfl ⟨rfl, rfl⟩ (by kernel_rfl) rfl plain (by kernel_rfl)
#print axioms PathsBack_holds
end Go.Proofs.YtmbgaaoneaplmaaDoor.back
