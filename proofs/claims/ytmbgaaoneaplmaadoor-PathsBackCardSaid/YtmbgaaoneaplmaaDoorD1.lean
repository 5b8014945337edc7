/- Walks: slices.Clone. -/
import Derived.Test.YtmbgaaoneaplmaaDoorA2
import Derived.Lib.SliceRun
namespace Go.Proofs.YtmbgaaoneaplmaaDoor
open Go.RowKit

theorem info_parts24 : ∃ i0, Tryd.prog.info? 24 = some i0 ∧ i0.zero = some (.agg #[.int .i64 0, .int .i64 0, .string ⟨#[]⟩, .slice none 0 0]) ∧ i0.size = 4 ∧ i0.bytes = 56 := by
  obtain ⟨i0, hi, hzz⟩ := Option.map_eq_some_iff.1 info24
  simp only [Prod.mk.injEq] at hzz
  exact ⟨i0, hi, hzz.1, hzz.2.1, hzz.2.2⟩

/-- append(v, items...), the items those of a slice that is read. -/
theorem append_rows {w : World} {base : Nat} (ty : TypeId) {v : Value} {rows : List Cel} (h : w.ownsRow base 24 4 v rows.length (flat rows)) {ok : Nat → Prop} {l : List Val} {A : Option Addr} {m c : Nat} (hs : Sl w ok l A m c) (hlen : rows.length + m ≤ 1000000) (hb : base ≤ w.heap.size) :
    ∃ v' w' news, (Builtin.append_ #[22, 22] ty #[v, .slice A m c]).run Tryd.prog w = .ok v' w' ∧ news.map (·.x) = l ∧ Good w ok news ∧ w'.ownsRow base 24 4 v' (rows ++ news).length (flat (rows ++ news)) ∧ w.grownBy w' v.ownBlock ∧ (v'.ownBlock = v.ownBlock ∨ v'.ownBlock = some w.heap.size) := by
  obtain ⟨i0, hi, hz0, hz1, hz2⟩ := info_parts24
  rcases Nat.eq_zero_or_pos m with h0 | h0
  · subst h0
    have hl : l = [] := List.eq_nil_of_length_eq_zero hs.1
    subst hl
    refine ⟨v, w, [], ?_, rfl, fun r hr => (by cases hr), by simpa using h, ⟨rfl, rfl, rfl, Nat.le_refl _, fun _ _ _ => rfl⟩, .inl rfl⟩
    rcases h.2 with ⟨rfl, hn⟩ | ⟨g, cap, cur, rfl, _, _, hnc, _⟩
    · cases A <;> simp [Builtin.append_, run_underlying Tryd.underlying22, sizeOf, typeInfo, hi, Builtin.lenOf, Builtin.firstCells, loadCells, loadCellsFrom]
    · cases A <;> simp [Builtin.append_, run_underlying Tryd.underlying22, sizeOf, typeInfo, hi, Builtin.lenOf, Builtin.firstCells, hnc, storeCells, loadCells, loadCellsFrom]
  · have hne : l ≠ [] := by rintro rfl; have := hs.1; simp at this; omega
    obtain ⟨y, r, rfl⟩ := List.exists_cons_of_ne_nil hne
    have hL := hs.2.2.2
    have hL' := hL
    simp only [RepL] at hL'
    obtain ⟨b, o, rfl, _⟩ := hL'
    obtain ⟨news, hm, hg, hcell⟩ := Sl_rows hL
    have hml : news.length = m := by have := congrArg List.length hm; simp at this; have := hs.1; simp at this; omega
    obtain ⟨v', w', hr, h2, h3, _, h5⟩ := run_append_own_at (P := Tryd.prog) w base 22 ty 24 i0 _ 4 56 Tryd.underlying22 hi hz0 hz1 hz2 rfl (by omega) v rows.length (flat rows) h ⟨b, o, none⟩ m c (flat news) (by rw [flat_length, hml])
      (fun j u hu => by
        have ha : (⟨b, o, none⟩ : Addr).add j = ⟨b, o + j, none⟩ := by unfold Addr.add; split <;> simp_all
        rw [ha]; exact hcell j u hu) (flat_one news) (by simp only [maxLen]; omega) (by omega) hb
    refine ⟨v', w', news, hr, hm, hg, ?_, h3, h5⟩
    rw [List.length_append, hml, flat_append]
    exact h2

theorem wpList_append_rows {ops : Array Oper} {rest : List Oper} {o : Oper} {a : Act} {Q : Exit → Act → World → Prop} {w : World} (hgd : o.guard = none) (s x : Operand)
    (ho : o.op = .call { callee := .builtin .append, args := #[s, x], argTypes := #[22, 22] }) (base : Nat) (v : Value) (rows : List Cel) (hv : a.eval s = v) (h : w.ownsRow base 24 4 v rows.length (flat rows))
    (ok : Nat → Prop) (l : List Val) (A : Option Addr) (m c : Nat) (hx : a.eval x = .slice A m c) (hs : Sl w ok l A m c) (hlen : rows.length + m ≤ 1000000) (hb : base ≤ w.heap.size)
    (hk : ∀ v' w' news, news.map (·.x) = l → Good w ok news → w'.ownsRow base 24 4 v' (rows ++ news).length (flat (rows ++ news)) → w.grownBy w' v.ownBlock → (v'.ownBlock = v.ownBlock ∨ v'.ownBlock = some w.heap.size) → wpList Tryd.prog ops Q rest (a.put o.dst v') w') :
    wpList Tryd.prog ops Q (o :: rest) a w := by
  refine wpList_plain hgd fun K hK => ?_
  obtain ⟨v', w', news, hr, h1, h2, h3, h4, h5⟩ := append_rows o.type h hs hlen hb
  unfold Oper.wp execOp
  simp only [ho, resolve, invoke, builtin, Sem.run_bind, Sem.run_pure, Result.andThen_ok, List.map_toArray, List.map_cons, List.map_nil, hv, hx, hr]
  exact hK _ _ (hk v' w' news h1 h2 h3 h4 h5)

/-- The empty slice of a literal. -/
theorem own_empty (w : World) (base : Nat) (hb : base ≤ w.heap.size) : (w.alloc (.cells #[] 24)).ownsRow base 24 4 (.slice (some ⟨w.heap.size, 0, none⟩) 0 0) ([] : List Cel).length (flat []) := by
  have h := World.ownsRow_lit (base := base) (e := 24) (size := 4) w #[] 0 hb (by simp [maxLen]) (by simp)
  simpa [flat] using h

set_option maxHeartbeats 1000000 in
set_option maxRecDepth 100000 in
/-- slices.Clone. -/
theorem clone_calls (l : List Val) (ok : Nat → Prop) (A : Option Addr) (n c : Nat) (w : World) (hx : Sl w ok l A n c) (hn : n ≤ 100000) :
    Calls Tryd.prog 96 #[.slice A n c] w fun e w' => ∃ v, e = .returned v ∧ OwnS w' w.heap.size (fun k => ok k ∧ k < w.heap.size) v l ∧ Below w.heap.size w w' := by
  cases A with
  | none =>
    have h0 : n = 0 := by
      rcases Nat.eq_zero_or_pos n with h | h
      · exact h
      · have hne : l ≠ [] := by rintro rfl; have := hx.1; simp at this; omega
        obtain ⟨y, r, rfl⟩ := List.exists_cons_of_ne_nil hne
        have hL := hx.2.2.2
        simp only [RepL] at hL
        obtain ⟨b, o, he, _⟩ := hL
        cases he
    subst h0
    have hl : l = [] := List.eq_nil_of_length_eq_zero hx.1
    subst hl
    have hq := Lib.run_eql_slice_nil (P := Tryd.prog) w 22 24 none 0 c 0 0 Tryd.underlying22
    go_enter Tryd.func96, Tryd.ntmps96
    go_wp2
    go_ret
    exact ⟨_, rfl, .inl ⟨rfl, rfl⟩, Bl.refl _⟩
  | some ad =>
    have hq := Lib.run_eql_slice_nil (P := Tryd.prog) w 22 24 (some ad) n c 0 0 Tryd.underlying22
    go_enter Tryd.func96, Tryd.ntmps96
    go_wp2_with (at_builtin; refine wpList_append_rows rfl _ _ rfl w.heap.size (.slice (some ⟨w.heap.size, 0, none⟩) 0 0) [] rfl (own_empty w _ (Nat.le_refl _)) _ l _ _ _ rfl (Sl_bl (Sl_bound hx) ((Bl.refl _).al _)) (by simp; omega) (by simp) ?_; intro v1 w1 news hm hg hown hgr hat)
    go_ret
    have hB : Below w.heap.size w w1 := ((Bl.refl _).al _).grown hgr (by simp) (by intro k hk; simp only [Value.ownBlock, Option.some.injEq] at hk; omega)
    refine ⟨v1, rfl, ?_, hB⟩
    rw [← hm]
    exact OwnS.of_row (by simpa using hown) (hg.move (fun k hk _ => ⟨hk, hgr.block k (by have := hk.2; simp; omega) (by have := hk.2; simp only [Value.ownBlock, ne_eq, Option.some.injEq]; omega)⟩)) (by intro k hk; omega)
end Go.Proofs.YtmbgaaoneaplmaaDoor
