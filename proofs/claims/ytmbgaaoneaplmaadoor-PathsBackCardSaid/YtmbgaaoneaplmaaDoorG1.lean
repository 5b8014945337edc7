/- Walks: the law's own little program. -/
import Derived.Test.YtmbgaaoneaplmaaDoorF2
import Derived.Deep.Cut
namespace Go.Proofs.YtmbgaaoneaplmaaDoor
open Go.RowKit

theorem int_ret (n : Int) (w : World) : Calls Tryd.prog 18 #[.int .i64 n] w fun e w' => e = .returned (.agg #[.int .i64 2, .int .i64 n, .string ⟨#[]⟩, .slice none 0 0]) ∧ Below w.heap.size w w' := by
  go_enter Tryd.func18, Tryd.ntmps18
  go_wp2
  exact bodyPost_ret (v := .agg #[.int .i64 2, .int .i64 n, .string ⟨#[]⟩, .slice none 0 0]) (by simp [results, Tryd.results18, go_sem]) rfl ⟨rfl, (Bl.refl _).al _⟩
theorem text_ret (t : ByteArray) (w : World) : Calls Tryd.prog 50 #[.string t] w fun e w' => e = .returned (.agg #[.int .i64 3, .int .i64 0, .string t, .slice none 0 0]) ∧ Below w.heap.size w w' := by
  go_enter Tryd.func50, Tryd.ntmps50
  go_wp2
  exact bodyPost_ret (v := .agg #[.int .i64 3, .int .i64 0, .string t, .slice none 0 0]) (by simp [results, Tryd.results50, go_sem]) rfl ⟨rfl, (Bl.refl _).al _⟩

theorem Sl_ab (w : World) (ok : Nat → Prop) (B : Nat) (h : w.heap[B]? = some (.cells #[.int .i64 3, .int .i64 0, .string ⟨#[97]⟩, .slice none 0 0, .int .i64 3, .int .i64 0, .string ⟨#[98]⟩, .slice none 0 0] 24 (0, 0))) (hok : ok B) : Sl w ok [va, vb] (some ⟨B, 0, none⟩) 2 2 :=
  Sl_of_block (rows := [⟨va, none, 0⟩, ⟨vb, none, 0⟩]) h (by
    intro r hr
    rcases List.mem_cons.1 hr with rfl | hr
    · exact ⟨by decide, Sl_nil _ _⟩
    · cases List.mem_singleton.1 hr; exact ⟨by decide, Sl_nil _ _⟩) hok (by decide) (Nat.le_refl _)

theorem bcell {W w1 : World} (hb : Below W.heap.size W w1) : (∀ b o, b < W.heap.size → w1.cell? ⟨b, o, none⟩ = W.cell? ⟨b, o, none⟩) ∧ (∀ b o, b < W.heap.size → w1.frozen? ⟨b, o, none⟩ = W.frozen? ⟨b, o, none⟩) :=
  ⟨fun b o h => hb.cell (p := ⟨b, o, none⟩) h, fun b o h => hb.frozen (p := ⟨b, o, none⟩) h⟩
theorem heap_call {w w' : World} {k : Nat} {x : Obj} (hb : Below w.heap.size w w') (h : w.heap[k]? = some x) : w'.heap[k]? = some x := (hb.block k (Array.getElem?_eq_some_iff.1 h).1).trans h
theorem heap_old {w : World} {k : Nat} {x : Obj} (o : Obj) (h : w.heap[k]? = some x) : (w.alloc o).heap[k]? = some x := heap_call ((Bl.refl w).al o) h
theorem heap_dr {w : World} {k : Nat} {x : Obj} (h : w.heap[k]? = some x) : w.drew.heap[k]? = some x := h
theorem heap_new (w : World) {k : Nat} {o : Obj} (h : k = w.heap.size) : (w.alloc o).heap[k]? = some o := by subst h; exact heap_alloc_new w o
theorem size_dr (w : World) : w.drew.heap.size = w.heap.size := rfl

theorem put_sp (B : Option Addr) (w : World) (hT : Lib.Utf8Tabs 1 2 w) (hl : Sl w (fun _ => True) [va, vb] B 2 2) :
    Calls Tryd.prog 11 #[.agg #[.int .i64 0, .int .i64 0, .string ⟨#[]⟩, .slice none 0 0], .slice B 2 2, .agg #[.int .i64 2, .int .i64 1, .string ⟨#[]⟩, .slice none 0 0]] w fun e w' =>
      ∃ A c, e = .returned (.tuple #[.agg #[.int .i64 6, .int .i64 0, .string ⟨#[]⟩, .slice A 2 c], .int .i64 0]) ∧ Sl w' (fun k => w.heap.size ≤ k) vsp.is A 2 c ∧ Below w.heap.size w w' := by
  have := put_calls vz (vnum 1) [va, vb] (fun _ => True) (fun k => w.heap.size ≤ k) none B none 0 2 2 0 w hT (Sl_nil _ _) (by decide) hl (Sl_nil _ _) (by decide) (fun _ h => h)
  rw [putG_sp] at this
  refine this.mono ?_
  rintro e w' ⟨v, rfl, ⟨A, c, rfl, _, hS⟩, hb⟩
  exact ⟨A, c, rfl, hS, hb⟩

theorem VarAt.of_heap {w : World} {q : Nat} {k n : Int} {t : ByteArray} {A : Option Addr} {m c : Nat} (h : w.heap[q]? = some (.cells #[.int .i64 k, .int .i64 n, .string t, .slice A m c] 24 (0, 0))) : VarAt w q k n t A m c := by
  refine ⟨⟨?_, ?_, ?_, ?_⟩, ?_, ?_, ?_, ?_⟩ <;> simp [World.cell?, World.frozen?, h]
/-- A value stored into a variable that was made ahead of it. -/
theorem box_old {w : World} {l : List Val} {k n : Int} {t : ByteArray} {A : Option Addr} {m c q N : Nat} (h : w.heap[q]? = some (.cells #[.int .i64 0, .int .i64 0, .string ⟨#[]⟩, .slice none 0 0] 24 (0, 0))) (hs : Sl w (fun k => N ≤ k) l A m c) (hq : q < N) :
    BoxAt ((((w.setCell ⟨q, 0, none⟩ (.int .i64 k)).setCell ⟨q, 1, none⟩ (.int .i64 n)).setCell ⟨q, 2, none⟩ (.string t)).setCell ⟨q, 3, none⟩ (.slice A m c)) q k n t A m c ∧
      Sl ((((w.setCell ⟨q, 0, none⟩ (.int .i64 k)).setCell ⟨q, 1, none⟩ (.int .i64 n)).setCell ⟨q, 2, none⟩ (.string t)).setCell ⟨q, 3, none⟩ (.slice A m c)) (fun _ => True) l A m c :=
  ⟨(set4_var (VarAt.of_heap h)).1, Sl_move (fun k hk _ => ⟨trivial, set4_block k (by omega)⟩) hs⟩
/-- .. that is made behind it. -/
theorem box_new {w : World} {l : List Val} {k n : Int} {t : ByteArray} {A : Option Addr} {m c : Nat} {P : Nat → Prop} (hs : Sl w P l A m c) :
    BoxAt (w.alloc (.cells #[.int .i64 k, .int .i64 n, .string t, .slice A m c] 24)) w.heap.size k n t A m c ∧ Sl (w.alloc (.cells #[.int .i64 k, .int .i64 n, .string t, .slice A m c] 24)) (fun _ => True) l A m c :=
  ⟨BoxAt.new _ _ _ _ _ _ _ _, Sl_mono (Sl_bl hs ((Bl.refl _).al _)) (fun _ _ _ => trivial)⟩

theorem keep_ab {W3 w' : World} {p1 p2 : Nat} (b1 : BoxAt W3 p1 3 0 ⟨#[97]⟩ none 0 0) (b2 : BoxAt W3 p2 3 0 ⟨#[98]⟩ none 0 0) (hb : Below W3.heap.size W3 w') :
    Below W3.heap.size W3 w' ∧ w'.cell? ⟨p1, 0, none⟩ = some (.int .i64 3) ∧ w'.cell? ⟨p1, 1, none⟩ = some (.int .i64 0) ∧ w'.cell? ⟨p1, 2, none⟩ = some (.string ⟨#[97]⟩) ∧ w'.cell? ⟨p1, 3, none⟩ = some (.slice none 0 0) ∧ w'.cell? ⟨p2, 0, none⟩ = some (.int .i64 3) ∧ w'.cell? ⟨p2, 1, none⟩ = some (.int .i64 0) ∧ w'.cell? ⟨p2, 2, none⟩ = some (.string ⟨#[98]⟩) ∧ w'.cell? ⟨p2, 3, none⟩ = some (.slice none 0 0) := by
  obtain ⟨a0, a1, a2, a3⟩ := b1.later hb
  obtain ⟨c0, c1, c2, c3⟩ := b2.later hb
  exact ⟨hb, a0, a1, a2, a3, c0, c1, c2, c3⟩

theorem get_sp (A B : Option Addr) (c : Nat) (w : World) (hT : Lib.Utf8Tabs 1 2 w) (hv : Sl w (fun _ => True) vsp.is A 2 c) (hl : Sl w (fun _ => True) [va, vb] B 2 2) :
    Calls Tryd.prog 15 #[.agg #[.int .i64 6, .int .i64 0, .string ⟨#[]⟩, .slice A 2 c], .slice B 2 2] w fun e w' =>
      ∃ A' c', e = .returned (.tuple #[.agg #[.int .i64 2, .int .i64 1, .string ⟨#[]⟩, .slice A' 0 c'], .bool true, .int .i64 0]) ∧ Below w.heap.size w w' := by
  have := get_calls vsp [va, vb] (fun _ => True) (fun _ => True) A B c 2 2 w hT hv (by decide) hl (fun _ _ => trivial)
  rw [getF_sp] at this
  refine this.mono ?_
  rintro e w' ⟨v, rfl, ⟨A', c', rfl, _, hS⟩, hb⟩
  exact ⟨A', c', rfl, hb⟩
theorem Sl_num (w : World) (ok : Nat → Prop) (n : Int) (B : Nat) (h : w.heap[B]? = some (.cells #[.int .i64 2, .int .i64 n, .string ⟨#[]⟩, .slice none 0 0] 24 (0, 0))) (hok : ok B) : Sl w ok [vnum n] (some ⟨B, 0, none⟩) 1 1 :=
  Sl_of_block (rows := [⟨vnum n, none, 0⟩]) h (by
    intro r hr
    cases List.mem_singleton.1 hr; exact ⟨Nat.zero_le _, Sl_nil _ _⟩) hok (by simp [big]) (Nat.le_refl _)
theorem keep_a {W w' : World} {p1 : Nat} (b1 : BoxAt W p1 3 0 ⟨#[97]⟩ none 0 0) (hb : Below W.heap.size W w') :
    Below W.heap.size W w' ∧ w'.cell? ⟨p1, 0, none⟩ = some (.int .i64 3) ∧ w'.cell? ⟨p1, 1, none⟩ = some (.int .i64 0) ∧ w'.cell? ⟨p1, 2, none⟩ = some (.string ⟨#[97]⟩) ∧ w'.cell? ⟨p1, 3, none⟩ = some (.slice none 0 0) := by
  obtain ⟨a0, a1, a2, a3⟩ := b1.later hb
  exact ⟨hb, a0, a1, a2, a3⟩
theorem put_no (B : Option Addr) (w : World) (hT : Lib.Utf8Tabs 1 2 w) (hl : Sl w (fun _ => True) [vnum 3] B 1 1) :
    Calls Tryd.prog 11 #[.agg #[.int .i64 4, .int .i64 0, .string ⟨#[]⟩, .slice none 0 0], .slice B 1 1, .agg #[.int .i64 3, .int .i64 0, .string ⟨#[97]⟩, .slice none 0 0]] w fun e w' =>
      ∃ A c, e = .returned (.tuple #[.agg #[.int .i64 0, .int .i64 0, .string ⟨#[]⟩, .slice A 0 c], .int .i64 260]) ∧ Below w.heap.size w w' := by
  have := put_calls vlist va [vnum 3] (fun _ => True) (fun k => w.heap.size ≤ k) none B none 0 1 1 0 w hT (Sl_nil _ _) (by decide) hl (Sl_nil _ _) (by decide) (fun _ h => h)
  rw [putG_no] at this
  refine this.mono ?_
  rintro e w' ⟨v, rfl, ⟨A, c, rfl, _, hS⟩, hb⟩
  exact ⟨A, c, rfl, hb⟩

set_option maxHeartbeats 8000000 in
set_option maxRecDepth 100000 in
theorem speaks_calls (w : World) (hT : Lib.Utf8Tabs 1 2 w) : Calls Tryd.prog 14 #[] w fun e w' => e = .returned (.bool true) ∧ Below w.heap.size w w' := by
  have HT := Lib.hid hT
  clear hT
  go_enter Tryd.func14, Tryd.ntmps14
  go_wp2_with fail
  refine (text_ret ⟨#[97]⟩ _).mono ?_
  rintro e w1 ⟨rfl, hb1⟩
  go_wp2_with fail
  refine (text_ret ⟨#[98]⟩ _).mono ?_
  rintro e w2 ⟨rfl, hb2⟩
  have b1 := ((BoxAt.new w1 3 0 ⟨#[97]⟩ none 0 0 24).later hb2).later ((Bl.refl _).al (.cells #[.int .i64 3, .int .i64 0, .string ⟨#[98]⟩, .slice none 0 0] 24))
  have b2 := (BoxAt.new w2 3 0 ⟨#[98]⟩ none 0 0 24)
  have hB3 : Below w.heap.size w (w2.alloc (.cells #[.int .i64 3, .int .i64 0, .string ⟨#[98]⟩, .slice none 0 0] 24)) := ((hb1.al _).call hb2).al _
  go_upto_region 3 with fail
  obtain ⟨W3, hW3⟩ : ∃ W3, W3 = w2.alloc (.cells #[.int .i64 3, .int .i64 0, .string ⟨#[98]⟩, .slice none 0 0] 24) := ⟨_, rfl⟩
  rw [← hW3] at b1 b2 hB3 ⊢
  clear hW3 hb1 hb2
  generalize w1.heap.size = p1 at *
  generalize w2.heap.size = p2 at *
  have B1 := Lib.hid b1
  have B2 := Lib.hid b2
  have l1 := b1.lt
  have l2 := b2.lt
  have l1' : p1 < W3.heap.size + 1 := by omega
  have l2' : p2 < W3.heap.size + 1 := by omega
  have l1'' : p1 < W3.heap.size + 1 + 1 := by omega
  have l2'' : p2 < W3.heap.size + 1 + 1 := by omega
  obtain ⟨a0, a1, a2, a3⟩ := b1
  obtain ⟨c0, c1, c2, c3⟩ := b2
  go_cut [3, 4] from 10 (fun p e wx => e = .int .i64 0 ∧ ∃ q A c, p = .pointer (some ⟨q, 0, none⟩) ∧ BoxAt wx q 6 0 ⟨#[]⟩ A 2 c ∧ Sl wx (fun _ => True) vsp.is A 2 c ∧ Below W3.heap.size W3 wx)
  case first =>
    rename_i J K1 hJ hK1
    go_region_held3 (fun w' => Below W3.heap.size W3 w' ∧ w'.cell? ⟨p1, 0, none⟩ = some (.int .i64 3) ∧ w'.cell? ⟨p1, 1, none⟩ = some (.int .i64 0) ∧ w'.cell? ⟨p1, 2, none⟩ = some (.string ⟨#[97]⟩) ∧ w'.cell? ⟨p1, 3, none⟩ = some (.slice none 0 0) ∧ w'.cell? ⟨p2, 0, none⟩ = some (.int .i64 3) ∧ w'.cell? ⟨p2, 1, none⟩ = some (.int .i64 0) ∧ w'.cell? ⟨p2, 2, none⟩ = some (.string ⟨#[98]⟩) ∧ w'.cell? ⟨p2, 3, none⟩ = some (.slice none 0 0)) (exact keep_ab B1.out B2.out (by repeat (first | exact Below.refl _ _ | refine Below.call ?_ hb5 | refine Below.call ?_ hb4 | refine Below.al ?_ _ | refine Below.setCell ?_ (by dsimp only; omega) _ | refine Below.dr ?_))) (first
                    | (go_at_call 18
                       refine (int_ret 1 _).mono ?_
                       rintro e w4 ⟨rfl, hb4⟩
                       obtain ⟨hc4, hf4⟩ := bcell hb4
                       have hz4 := hb4.size
                       simp only [World.size_alloc, size_dr] at hz4 hc4 hf4
                       have e1 : W3.heap.size ≤ w4.heap.size := by omega
                       have e2 : W3.heap.size < w4.heap.size + 1 := by omega
                       have e3 : W3.heap.size < w4.heap.size + 1 + 1 := by omega
                       try have e4 : W3.heap.size < w4.heap.size := by omega
                       try have e5 : W3.heap.size + 1 < w4.heap.size := by omega
                       try have e6 : W3.heap.size + 1 < w4.heap.size + 1 := by omega)
                    | (go_at_call 11
                       refine (put_sp _ _ (Utf8Tabs_below HT.out (by repeat (first | exact hB3 | refine Below.call ?_ hb4 | refine Below.al ?_ _ | refine Below.dr ?_))) (Sl_ab _ _ _ (by repeat (first | refine heap_call hb4 ?_ | exact heap_new _ (by simp) | refine heap_old _ ?_ | refine heap_dr ?_)) trivial)).mono ?_
                       rintro e w5 ⟨A5, c5, rfl, S5, hb5⟩
                       obtain ⟨hc5, hf5⟩ := bcell hb5
                       have hz5 := hb5.size
                       try simp only [World.size_alloc] at hz5 hc5 hf5
                       have e0 : w4.heap.size ≤ w5.heap.size := by omega
                       try have e7 : w4.heap.size < w5.heap.size := by omega
                       try have e8 : w4.heap.size + 1 < w5.heap.size := by omega))
    all_goals
      refine hK1 _ _ (Met.intro (hJ _ _ ?_))
      (repeat apply Exists.intro)
      refine ⟨⟨rfl, _, A5, c5, rfl, ?_⟩, rfl⟩
      rw [← and_assoc]
      refine ⟨?_, ?_⟩
      · first
        | with_reducible refine box_new S5
        | (with_reducible refine box_old ?_ S5 ?_
           · repeat (first | with_reducible refine heap_call hb5 ?_ | with_reducible refine heap_call hb4 ?_ | with_reducible refine heap_dr ?_ | with_reducible exact heap_new _ (by simp) | with_reducible refine heap_old _ ?_)
           · (try simp only [World.size_alloc]); omega)
      · repeat (first | with_reducible exact Below.refl _ _ | with_reducible refine Below.call ?_ hb5 | with_reducible refine Below.call ?_ hb4 | with_reducible refine Below.al ?_ _ | with_reducible refine Below.dr ?_ | with_reducible refine Below.setCell ?_ (by dsimp only; omega) _)
  case rest =>
    obtain ⟨rfl, q, A, c, rfl, bq, Sq, hB4⟩ := hcut
    have BQ := Lib.hid bq
    have hBc : Below w.heap.size w wc := hB3.call hB4
    have lq := bq.lt
    obtain ⟨z0, z1, z2, z3⟩ := bq
    obtain ⟨a0, a1, a2, a3⟩ := B1.out.later hB4
    obtain ⟨c0, c1, c2, c3⟩ := B2.out.later hB4
    go_wp2_with fail
    refine (get_sp _ _ _ _ (Utf8Tabs_below HT.out (hBc.al _)) (Sl_bl Sq ((Bl.refl _).al _)) (Sl_ab _ _ _ (heap_new _ rfl) trivial)).mono ?_
    rintro e w7 ⟨A7, c7, rfl, hb7⟩
    go_upto_region 5 with fail
    have b5 := BoxAt.new w7 2 1 ⟨#[]⟩ A7 0 c7 24
    have b1 := ((B1.out.later hB4).later ((Bl.refl _).al (.cells #[.int .i64 3, .int .i64 0, .string ⟨#[97]⟩, .slice none 0 0, .int .i64 3, .int .i64 0, .string ⟨#[98]⟩, .slice none 0 0] 24))).later (hb7.call ((Bl.refl _).al (.cells #[.int .i64 2, .int .i64 1, .string ⟨#[]⟩, .slice A7 0 c7] 24)))
    have bq := (BQ.out.later ((Bl.refl _).al (.cells #[.int .i64 3, .int .i64 0, .string ⟨#[97]⟩, .slice none 0 0, .int .i64 3, .int .i64 0, .string ⟨#[98]⟩, .slice none 0 0] 24))).later (hb7.call ((Bl.refl _).al (.cells #[.int .i64 2, .int .i64 1, .string ⟨#[]⟩, .slice A7 0 c7] 24)))
    have hB5 : Below w.heap.size w (w7.alloc (.cells #[.int .i64 2, .int .i64 1, .string ⟨#[]⟩, .slice A7 0 c7] 24)) := ((hBc.al _).call hb7).al _
    obtain ⟨W5, hW5⟩ : ∃ W5, W5 = w7.alloc (.cells #[.int .i64 2, .int .i64 1, .string ⟨#[]⟩, .slice A7 0 c7] 24) := ⟨_, rfl⟩
    rw [← hW5] at b5 b1 bq hB5 ⊢
    clear hW5 hb7 a0 a1 a2 a3 c0 c1 c2 c3 z0 z1 z2 z3 lq l1 l2 l1' l1'' l2' l2'' Sq hBc
    generalize w7.heap.size = p5 at *
    replace BQ := Lib.hid bq
    have BP := Lib.hid b1
    have B5 := Lib.hid b5
    have l1 := b1.lt
    have l1' : p1 < W5.heap.size + 1 := by omega
    have l1'' : p1 < W5.heap.size + 1 + 1 := by omega
    clear bq b5
    obtain ⟨a0, a1, a2, a3⟩ := b1
    go_cut [8, 9] from 30 (fun _ e wx => e = .int .i64 260 ∧ Below W5.heap.size W5 wx)
    case first =>
      rename_i J K1 hJ hK1
      go_region_held3 (fun w' => Below W5.heap.size W5 w' ∧ w'.cell? ⟨p1, 0, none⟩ = some (.int .i64 3) ∧ w'.cell? ⟨p1, 1, none⟩ = some (.int .i64 0) ∧ w'.cell? ⟨p1, 2, none⟩ = some (.string ⟨#[97]⟩) ∧ w'.cell? ⟨p1, 3, none⟩ = some (.slice none 0 0)) (exact keep_a BP.out (by repeat (first | with_reducible exact Below.refl _ _ | with_reducible refine Below.call ?_ hb5 | with_reducible refine Below.call ?_ hb4 | with_reducible refine Below.al ?_ _ | with_reducible refine Below.dr ?_ | with_reducible refine Below.setCell ?_ (by dsimp only; omega) _))) (first
                      | (go_at_call 18
                         refine (int_ret 3 _).mono ?_
                         rintro e w4 ⟨rfl, hb4⟩
                         obtain ⟨hc4, hf4⟩ := bcell hb4
                         have hz4 := hb4.size
                         simp only [World.size_alloc, size_dr] at hz4 hc4 hf4
                         have e1 : W5.heap.size ≤ w4.heap.size := by omega
                         have e2 : W5.heap.size < w4.heap.size + 1 := by omega
                         have e3 : W5.heap.size < w4.heap.size + 1 + 1 := by omega
                         try have e4 : W5.heap.size < w4.heap.size := by omega)
                      | (go_at_call 11
                         refine (put_no _ _ (Utf8Tabs_below HT.out (by repeat (first | exact hB5 | with_reducible refine Below.call ?_ hb4 | with_reducible refine Below.al ?_ _ | with_reducible refine Below.dr ?_))) (Sl_num _ _ _ _ (by repeat (first | with_reducible refine heap_call hb4 ?_ | with_reducible refine heap_dr ?_ | with_reducible exact heap_new _ (by simp) | with_reducible refine heap_old _ ?_)) trivial)).mono ?_
                         rintro e w5 ⟨A5, c5, rfl, hb5⟩
                         obtain ⟨hc5, hf5⟩ := bcell hb5
                         have hz5 := hb5.size
                         try simp only [World.size_alloc] at hz5 hc5 hf5
                         have e0 : w4.heap.size ≤ w5.heap.size := by omega
                         try have e7 : w4.heap.size < w5.heap.size := by omega
                         try have e8 : w4.heap.size + 1 < w5.heap.size := by omega))
      all_goals
        refine hK1 _ _ (Met.intro (hJ _ _ ?_))
        (repeat apply Exists.intro)
        refine ⟨⟨rfl, ?_⟩, rfl⟩
        repeat (first | with_reducible exact Below.refl _ _ | with_reducible refine Below.call ?_ hb5 | with_reducible refine Below.call ?_ hb4 | with_reducible refine Below.al ?_ _ | with_reducible refine Below.dr ?_ | with_reducible refine Below.setCell ?_ (by dsimp only; omega) _)
    case rest =>
      obtain ⟨rfl, hB6⟩ := hcut
      obtain ⟨z0, z1, z2, z3⟩ := BQ.out.later hB6
      obtain ⟨y0, y1, y2, y3⟩ := B5.out.later hB6
      go_wp2
      go_ret
      exact ⟨rfl, hB5.call hB6⟩
end Go.Proofs.YtmbgaaoneaplmaaDoor
