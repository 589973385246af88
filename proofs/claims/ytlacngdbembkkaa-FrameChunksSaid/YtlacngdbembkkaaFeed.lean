/- The framer: New, Held, Failed, Feed. -/
import Derived.Test.YtlacngdbembkkaaRefSplit
namespace Go.Proofs.Ytlacngdbembkkaa
open Go.RowKit Go.Shelf
attribute [local go_sem] Oper.semAt_some

theorem Bs.any {w : World} {Av : Nat → Prop} {v : Value} {l : List Int} (h : Bs w Av v l) : Bs w (fun k => w.heap.size ≤ k) v l := by
  obtain ⟨p, cap, rfl, hcp, h⟩ := h
  refine ⟨p, cap, rfl, hcp, fun hl => ?_⟩
  obtain ⟨b, off, rfl, h1, h2, h3⟩ := h hl
  exact ⟨b, off, rfl, by omega, h2, h3⟩
theorem run_append_full {w : World} {Av Av2 : Nat → Prop} (ty : TypeId) (q : Option Addr) (n : Nat) (l1 : List Int) (h1 : Bs w Av (.slice q n n) l1) (u : Value) (l2 : List Int) (h2 : Bs w Av2 u l2) (hn : l1.length + l2.length ≤ 1000000000) :
    ∃ v' w', (Builtin.append_ #[27, 27] ty #[.slice q n n, u]).run Try.prog w = .ok v' w' ∧ Bs w' (fun k => w'.heap.size ≤ k) v' (l1 ++ l2) ∧ w.grownBy w' none := by
  obtain ⟨i0, hi, hz0, hz1, hz2⟩ := info_parts Try.info5
  have h1' := h1
  obtain ⟨p1, c1, e1, hc1, g1⟩ := h1
  cases e1
  obtain ⟨q2, c2, rfl, hc2, g2⟩ := h2
  by_cases hl : l2 = []
  · subst hl
    refine ⟨.slice q l1.length l1.length, w, ?_, by rw [List.append_nil]; exact h1'.any, ⟨rfl, rfl, rfl, Nat.le_refl _, fun _ _ _ => rfl⟩⟩
    cases q2 <;> cases q <;> simp [Builtin.append_, run_underlying Try.underlying27, sizeOf, typeInfo, hi, Builtin.lenOf, Builtin.firstCells, loadCells, loadCellsFrom, storeCells]
  · obtain ⟨b, off, rfl, _, hb, hc⟩ := g2 hl
    have hpos : 0 < l2.length := Nat.pos_of_ne_zero fun e => hl (List.length_eq_zero_iff.1 e)
    have fin : ∀ v' w', w'.ownsRow w.heap.size 5 1 v' (l1.length + l2.length) (l1.map (.int .u8) ++ l2.map (.int .u8)) → Bs w' (fun k => w'.heap.size ≤ k) v' (l1 ++ l2) := fun v' w' ho => by
      have h5 : Own5 w' w.heap.size v' (l1 ++ l2) := by
        show w'.ownsRow _ _ _ _ _ _
        rw [List.length_append, List.map_append]; exact ho
      exact h5.bs.any
    have hnews : ∀ j u, (l2.map (.int .u8))[j]? = some u → w.cell? ((⟨b, off, none⟩ : Addr).add j) = some u := fun j u hj => by
      simp only [List.getElem?_map, Option.map_eq_some_iff] at hj
      obtain ⟨y, hy, rfl⟩ := hj
      rw [Go.WideShapes.add_plain]
      exact hc j y hy
    cases q with
    | some a =>
      have holds : ∀ j u, (l1.map (.int .u8))[j]? = some u → w.cell? (a.add j) = some u := fun j u hj => by
        simp only [List.getElem?_map, Option.map_eq_some_iff] at hj
        obtain ⟨y, hy, rfl⟩ := hj
        obtain ⟨b', off', e, _, _, hc'⟩ := g1 (by rintro rfl; simp at hy)
        cases e
        rw [Go.WideShapes.add_plain]
        exact hc' j y hy
      obtain ⟨v', w', hrun, r1, r2⟩ := run_append_arg_grows (P := Try.prog) w 27 ty 5 i0 (.int .u8 0) 1 1 Try.underlying27 hi hz0 hz1 hz2 rfl (by decide) a l1.length l1.length (l1.map (.int .u8)) (by simp) holds ⟨b, off, none⟩ l2.length c2 (l2.map (.int .u8)) (by simp) hnews (by omega) (by unfold maxLen; omega) (by omega)
      exact ⟨v', w', hrun, fin v' w' r1, r2⟩
    | none =>
      obtain rfl : l1 = [] := Decidable.byContradiction fun hne => by obtain ⟨b, off, e, _⟩ := g1 hne; cases e
      obtain ⟨v', w', hrun, r1, r2, _⟩ := run_append_own (P := Try.prog) w w.heap.size 27 ty 5 i0 (.int .u8 0) 1 1 Try.underlying27 hi hz0 hz1 hz2 rfl (by decide) (.slice none 0 0) 0 [] (World.ownsRow_nil w _ 5 1) ⟨b, off, none⟩ l2.length c2 (l2.map (.int .u8)) (by simp) hnews (ints_oneCell .u8 l2) (by unfold maxLen; simp at hn; omega) (by simp at hn; omega) (Nat.le_refl _)
      exact ⟨v', w', hrun, fin v' w' r1, r2⟩

theorem wpListIn_append_full {F : Fence} {nn : Nat} (w : World) {ops : Array Oper} {rest : List Oper} {o : Oper} {a : Act} {Q : Exit → Act → World → Prop} (hgd : o.guard = none) (s x : Operand)
    (ho : o.op = .call { callee := .builtin .append, args := #[s, x], argTypes := #[27, 27] }) {Av Av2 : Nat → Prop} (q : Option Addr) (n : Nat) (l1 : List Int) (hs : a.eval s = .slice q n n) (h1 : Bs w Av (.slice q n n) l1) (u : Value) (l2 : List Int) (hx : a.eval x = u) (h2 : Bs w Av2 u l2) (hn : l1.length + l2.length ≤ 1000000000)
    (h : ∀ v' w', Bs w' (fun k => w'.heap.size ≤ k) v' (l1 ++ l2) → w.grownBy w' none → wpListIn F nn Try.prog ops Q rest (a.put o.dst v') w') : wpListIn F nn Try.prog ops Q (o :: rest) a w := by
  refine wpListIn_plain hgd fun K hK => ?_
  obtain ⟨v', w', hr, h3, h4⟩ := run_append_full o.type q n l1 h1 u l2 h2 hn
  unfold Oper.wpIn
  refine ⟨by simp [Oper.about, ho, resolve, Target.leads, Sem.run_pure], ?_⟩
  rw [Oper.semAt_plain F _ _ (by rw [ho]; intro c hc'; cases hc')]
  simp [execOp, ho, resolve, invoke, builtin, hs, hx, hr, Result.andThen]
  exact hK _ _ (h v' w' h3 h4)

theorem split_calls (v : Value) (l : List Int) (w : World) (h : Bs w (fun k => w.heap.size ≤ k) v l) (hb : Byt l) (hn : l.length ≤ 1000000) :
    Calls Try.prog 16 #[v] w fun e w' => ∃ vf vl, e = .returned (.tuple #[vf, vl, .bool (splitL l).2.2]) ∧ Fr27 w' w.heap.size vf (splitL l).1 ∧ Own5 w' w.heap.size vl (splitL l).2.1 ∧ Below w.heap.size w w' := (callsIn_wide (n := 3)).1 (split_ok v l w h hb hn)

/-- A framer in memory. -/
structure Fm (w : World) (Av : Nat → Prop) (p : Nat) (held : List Int) (failed : Bool) : Prop where
  c0 : ∃ hv, w.cell? ⟨p, 0, none⟩ = some hv ∧ Bs w Av hv held
  avp : Av p
  c1 : w.cell? ⟨p, 1, none⟩ = some (.bool failed)
  c2 : w.cell? ⟨p, 2, none⟩ = some (.bool true)
  fz : ∀ j, w.frozen? ⟨p, j, none⟩ = false
  lt : p < w.heap.size

theorem Fm.of_obj {w : World} {Av : Nat → Prop} {p : Nat} {hv : Value} {held : List Int} {failed : Bool} (h : w.heap[p]? = some (.cells #[hv, .bool failed, .bool true] 47 (0, 0))) (hb : Bs w Av hv held) (ha : Av p) : Fm w Av p held failed :=
  ⟨⟨hv, by simp [World.cell?, h], hb⟩, ha, by simp [World.cell?, h], by simp [World.cell?, h], fun j => by simp [World.frozen?, h], lt_of_block h⟩

theorem new_ok (w : World) : Calls Try.prog 9 #[] w fun e w' => e = .returned (.pointer (some ⟨w.heap.size, 0, none⟩)) ∧ (∀ Av : Nat → Prop, Av w.heap.size → Fm w' Av w.heap.size [] false) ∧ Below w.heap.size w w' := by
  go_enter Try.func9, Try.ntmps9
  go_wp2
  go_ret
  exact ⟨rfl, fun Av ha => Fm.of_obj (World.alloc_heap_new w _) ⟨none, 0, rfl, Nat.le_refl _, fun h => absurd rfl h⟩ ha, (Below.refl _ _).alloc (Nat.le_refl _) _⟩

theorem Fm.mono {w : World} {Av Av' : Nat → Prop} {p : Nat} {held : List Int} {failed : Bool} (h : Fm w Av p held failed) (ha : ∀ k, k < w.heap.size → Av' k → Av k) (hp : Av' p) : Fm w Av' p held failed := by
  obtain ⟨hv, h0, hb⟩ := h.c0
  exact ⟨⟨hv, h0, hb.mono ha⟩, hp, h.c1, h.c2, h.fz, h.lt⟩
theorem Fm.keep {w w' : World} {Av S : Nat → Prop} {p : Nat} {held : List Int} {failed : Bool} (h : Fm w Av p held failed) (hx : Ext S w w') (hs : ∀ k, k < w.heap.size → S k → Av k) (hp : ¬ S p) : Fm w' Av p held failed := by
  obtain ⟨hv, h0, hb⟩ := h.c0
  exact ⟨⟨hv, (hx.cell (p := ⟨p, 0, none⟩) h.lt hp).trans h0, hb.keep hx hs⟩, h.avp, (hx.cell (p := ⟨p, 1, none⟩) h.lt hp).trans h.c1, (hx.cell (p := ⟨p, 2, none⟩) h.lt hp).trans h.c2, fun j => (hx.frozen (p := ⟨p, j, none⟩) h.lt hp).trans (h.fz j), Nat.lt_of_lt_of_le h.lt hx.size⟩

theorem none_some {w : World} {Av : Nat → Prop} {p : Nat} {held : List Int} {failed : Bool} (h : Fm w Av p held failed) : Calls Try.prog 22 #[.pointer (some ⟨p, 0, none⟩)] w fun e w' => e = .returned (.bool false) ∧ w' = w := by
  have h2 := h.c2
  go_enter Try.func22, Try.ntmps22
  go_wp2
  go_ret
  exact ⟨rfl, rfl⟩
theorem none_nil (w : World) : Calls Try.prog 22 #[.pointer none] w fun e w' => e = .returned (.bool true) ∧ w' = w := by
  go_enter Try.func22, Try.ntmps22
  go_wp2
  go_ret
  exact ⟨rfl, rfl⟩
theorem held_ok {w : World} {Av : Nat → Prop} {p : Nat} {held : List Int} {failed : Bool} (h : Fm w Av p held failed) : Calls Try.prog 13 #[.pointer (some ⟨p, 0, none⟩)] w fun e w' => e = .returned (.int .i64 held.length) ∧ w' = w := by
  obtain ⟨hv, h0, q, c, rfl, _⟩ := h.c0
  have hnone := none_some h
  go_enter Try.func13, Try.ntmps13
  go_wp2_with (go_at_call 22; refine hnone.mono ?_; rintro e w' ⟨rfl, hw⟩; have hw := hw.symm; subst hw)
  go_ret
  exact ⟨rfl, rfl⟩
theorem failed_ok {w : World} {Av : Nat → Prop} {p : Nat} {held : List Int} {failed : Bool} (h : Fm w Av p held failed) : Calls Try.prog 15 #[.pointer (some ⟨p, 0, none⟩)] w fun e w' => e = .returned (.bool failed) ∧ w' = w := by
  have hnone := none_some h
  have h1 := h.c1
  go_enter Try.func15, Try.ntmps15
  go_wp2_with (go_at_call 22; refine hnone.mono ?_; rintro e w' ⟨rfl, hw⟩; have hw := hw.symm; subst hw)
  go_ret
  exact ⟨rfl, rfl⟩

theorem Ext.of_below {S : Nat → Prop} {w w' : World} (h : Below w.heap.size w w') : Ext S w w' := ⟨h.os, h.tape, h.output, h.size, fun k hk _ => h.block k hk⟩
theorem Fr27.setBelow {W : World} {B : Nat} {v : Value} {fs : List (List Int)} (h : Fr27 W B v fs) {p : Addr} (hp : p.block < B) (x : Value) : Fr27 (W.setCell p x) B v fs := by
  obtain ⟨us, h1, h2, h3⟩ := h
  refine ⟨us, ownsRow_setCell_below h1 hp x, h2, fun j y hj => ?_⟩
  obtain ⟨u, hu, ho⟩ := h3 j y hj
  exact ⟨u, hu, ownsRow_setCell_below ho hp x⟩
theorem Fr27.lower {W : World} {B B' : Nat} {v : Value} {fs : List (List Int)} (h : Fr27 W B v fs) (hb : B' ≤ B) : Fr27 W B' v fs := by
  obtain ⟨us, h1, h2, h3⟩ := h
  refine ⟨us, ownsRow.lower h1 hb, h2, fun j y hj => ?_⟩
  obtain ⟨u, hu, ho⟩ := h3 j y hj
  exact ⟨u, hu, Own5.mono ho hb⟩

/-- What is held, and which error is told. -/
def heldOf : Bool → List Int → List Int
  | true, _ => []
  | false, l => l
def codeOf : Bool → Int
  | true => 263
  | false => 0
/-- What Feed does. -/
def feedL (h : List Int) (f : Bool) (c : List Int) : List (List Int) × List Int × Bool :=
  match f with
  | true => ([], h, true)
  | false => ((splitL (h ++ c)).1, heldOf (splitL (h ++ c)).2.2 (splitL (h ++ c)).2.1, (splitL (h ++ c)).2.2)

set_option maxHeartbeats 3200000 in
theorem feed_ok {w : World} {AvF : Nat → Prop} {p : Nat} {held : List Int} {failed : Bool} (h : Fm w AvF p held failed) {cv : Value} {c : List Int} {Av : Nat → Prop} (hc : Bs w Av cv c) (hbh : Byt held) (hbc : Byt c) (hn : held.length + c.length ≤ 1000000) :
    Calls Try.prog 10 #[.pointer (some ⟨p, 0, none⟩), cv] w fun e w' => ∃ fv, e = .returned (.tuple #[fv, .int .i64 (codeOf (feedL held failed c).2.2)]) ∧ Fr27 w' w.heap.size fv (feedL held failed c).1 ∧ Fm w' (fun k => AvF k ∧ k < w.heap.size) p (feedL held failed c).2.1 (feedL held failed c).2.2 ∧ Ext (fun k => k = p) w w' := by
  have h1 := h.c1
  have hf22 : Fence.wide.fn 22 := trivial
  have hf16 : Fence.wide.fn 16 := trivial
  refine (callsIn_wide (n := 1)).1 ?_
  refine callsIn_of_wp Try.func10 rfl trivial ?_ rfl
  simp only [Try.ntmps10, List.size_toArray, List.length_cons, List.length_nil, Nat.reduceAdd, Nat.reduceSub, Array.replicate_succ, Array.replicate_zero, List.push_toArray, List.append_toArray, List.nil_append, List.cons_append]
  have hF := h
  cases failed with
  | true =>
    rw [show feedL held true c = ([], held, true) from rfl]
    simp only
    gi_wp2_with (gi_at_call 22; refine (callsIn_wide.2 (none_some h)).mono ?_; rintro e w' ⟨rfl, hw⟩; have hw := hw.symm; subst hw)
    refine bodyPost_ret (results_tmp2 rfl _ _ _) rfl ?_
    exact ⟨_, rfl, ⟨[], World.ownsRow_nil _ _ _ _, rfl, fun j x hj => by simp at hj⟩, hF.mono (fun _ _ h => h.1) ⟨hF.avp, hF.lt⟩, Ext.refl _ _⟩
  | false =>
    obtain ⟨fs, rest, bad, hS⟩ : ∃ fs rest bad, splitL (held ++ c) = (fs, rest, bad) := ⟨_, _, _, rfl⟩
    rw [show feedL held false c = (fs, heldOf bad rest, bad) by simp [feedL, hS]]
    simp only
    obtain ⟨hv, h0, hbs⟩ := h.c0
    have hbs0 := hbs
    obtain ⟨q, cp, rfl, hcp, hbs⟩ := hbs
    gi_wp2_with (gi_at_call 22; refine (callsIn_wide.2 (none_some h)).mono ?_; rintro e w' ⟨rfl, hw⟩; have hw := hw.symm; subst hw)
    have hcp' : (held.length : Int) ≤ (cp : Int) := by omega
    have hcp0 : (0 : Int) ≤ (held.length : Int) := by omega
    refine wpIn_region_stg [.q 0 2, .q 1 2, .q 2 2, .q 3 2, .q 4 2, .q 5 2, .q 6 2, .q 7 2, .q 8 2, .q 9 2, .q 10 2, .q 11 2, .q 12 2, .q 13 2, .q 14 2, .q 15 2, .l 16, .l 17, .q 18 2, .q 19 2, .q 20 2, .q 21 2, .q 22 2, .q 23 2, .q 24 2] [16, 17]
      (fun _ w' => w'.cell? ⟨p, 0, none⟩ = some (.slice q held.length cp)) (by kernel_rfl) (by kernel_rfl) h0 ?_
    repeat (
      refine wpStg_q (v := ?_) rfl (fun _ h => by cases h) (fun _ => rfl) rfl (fun c' w' hc' hw => ?_) ?_
      rotate_left
      · (first | (go_simp; done) | (go_simp; with_reducible rfl) | (simp [go_sem, ↓IntWalk.iteOmega]; done) | (simp [go_sem, ↓IntWalk.iteOmega]; with_reducible rfl))
      try simp only [Act.put, List.getElem_toArray, List.getElem_cons_zero, List.getElem_cons_succ, List.setIfInBounds_toArray, List.set_cons_succ, List.set_cons_zero])
    have hfull : Bs w.drew AvF (.slice q held.length held.length) held := by
      obtain ⟨p1, c1, e1, hc1, g1⟩ := hbs0.drew
      cases e1
      exact ⟨q, held.length, rfl, Nat.le_refl _, g1⟩
    refine wpStg_l rfl ?_
    refine wpListIn_append_full _ rfl (.tmp 32) (.tmp 33) rfl q held.length held rfl hfull cv c rfl hc.drew (by omega) ?_
    intro v1 w1 hb1 hg1
    have hB1 : Below w.heap.size w w1 := (Below.refl w.heap.size w).drew.grown hg1 (Nat.le_refl _) (fun k hk => by cases hk)
    refine wpListIn_nil ?_
    simp only [Act.put, List.getElem_toArray, List.getElem_cons_zero, List.getElem_cons_succ, List.setIfInBounds_toArray, List.set_cons_succ, List.set_cons_zero]
    refine ⟨(hB1.cell (p := ⟨p, 0, none⟩) h.lt).trans h0, ?_⟩
    refine wpStg_l rfl ?_
    gi_wp2_with (gi_at_call 16; refine (callsIn_wide.2 (split_calls _ _ _ hb1 (hbh.append hbc) (by simp; omega))).mono ?_; rintro e w2 ⟨vf, vl, rfl, hfr2, hown2, hB2⟩)
    have hB02 : Below w.heap.size w w2 := hB1.trans (hB2.mono hB1.size)
    refine ⟨(hB02.cell (p := ⟨p, 0, none⟩) h.lt).trans h0, ?_⟩
    repeat (
      refine wpStg_q (v := ?_) rfl (fun _ h => by cases h) (fun _ => rfl) rfl (fun c' w' hc' hw => ?_) ?_
      rotate_left
      · (first | (go_simp; done) | (go_simp; with_reducible rfl))
      try simp only [Act.put, List.getElem_toArray, List.getElem_cons_zero, List.getElem_cons_succ, List.setIfInBounds_toArray, List.set_cons_succ, List.set_cons_zero])
    refine wpStg_nil ?_
    have k0 : w2.cell? ⟨p, 0, none⟩ = some (.slice q held.length cp) := (hB02.cell (p := ⟨p, 0, none⟩) h.lt).trans h0
    have k1 : w2.cell? ⟨p, 1, none⟩ = some (.bool false) := (hB02.cell (p := ⟨p, 1, none⟩) h.lt).trans hF.c1
    have k2 : w2.cell? ⟨p, 2, none⟩ = some (.bool true) := (hB02.cell (p := ⟨p, 2, none⟩) h.lt).trans hF.c2
    have kz : ∀ j, w2.frozen? ⟨p, j, none⟩ = false := fun j => (hB02.frozen (p := ⟨p, j, none⟩) h.lt).trans (hF.fz j)
    have kz0 := kz 0
    have kz1 := kz 1
    have hlt1 : p < w1.heap.size := Nat.lt_of_lt_of_le h.lt hB1.size
    have hx2 : Ext (fun k => k = p) w w2 := Ext.of_below hB02
    have hlt2 : p < w2.heap.size := Nat.lt_of_lt_of_le hlt1 hB2.size
    rw [hS] at hfr2 hown2
    simp only at hfr2 hown2
    clear hS
    obtain ⟨ql, cl, rfl⟩ := row_slice hown2
    cases bad with
    | true =>
      gi_wp2
      refine bodyPost_ret (results_tmp2 rfl _ _ _) rfl ?_
      refine ⟨vf, rfl, ((hfr2.setBelow (p := ⟨p, 0, none⟩) hlt1 _).setBelow (p := ⟨p, 1, none⟩) hlt1 _).lower hB1.size, ?_, (hx2.setCell (p := ⟨p, 0, none⟩) (.inl rfl) _).setCell (p := ⟨p, 1, none⟩) (.inl rfl) _⟩
      refine ⟨⟨.slice none 0 0, ?_, ⟨none, 0, rfl, Nat.le_refl _, fun h => absurd rfl h⟩⟩, ⟨hF.avp, hF.lt⟩, ?_, ?_, ?_, ?_⟩
      · go_simp
      · go_simp
      · go_simp
      · intro j; rw [World.frozen?_setCell, World.frozen?_setCell]; exact kz j
      · simpa [World.setCell] using hlt2
    | false =>
      gi_wp2
      refine bodyPost_ret (results_tmp2 rfl _ _ _) rfl ?_
      refine ⟨vf, rfl, (hfr2.setBelow (p := ⟨p, 0, none⟩) hlt1 _).lower hB1.size, ?_, hx2.setCell (p := ⟨p, 0, none⟩) (.inl rfl) _⟩
      refine ⟨⟨.slice ql rest.length cl, ?_, ?_⟩, ⟨hF.avp, hF.lt⟩, ?_, ?_, ?_, ?_⟩
      · go_simp
      · exact (hown2.bs.keep ((Ext.refl (fun k => k = p) w2).setCell (p := ⟨p, 0, none⟩) (.inl rfl) _) (fun k _ hk => by rw [hk]; exact hlt1)).mono (fun k _ hk => Nat.lt_of_lt_of_le hk.2 hB1.size)
      · go_simp
      · go_simp
      · intro j; rw [World.frozen?_setCell]; exact kz j
      · simpa [World.setCell] using hlt2

theorem held_nil (w : World) : Calls Try.prog 13 #[.pointer none] w fun e w' => e = .returned (.int .i64 0) ∧ w' = w := by
  go_enter Try.func13, Try.ntmps13
  go_wp2_with (go_at_call 22; refine (none_nil w).mono ?_; rintro e w' ⟨rfl, hw⟩; have hw := hw.symm; subst hw)
  go_ret
  exact ⟨rfl, rfl⟩
theorem failed_nil (w : World) : Calls Try.prog 15 #[.pointer none] w fun e w' => e = .returned (.bool false) ∧ w' = w := by
  go_enter Try.func15, Try.ntmps15
  go_wp2_with (go_at_call 22; refine (none_nil w).mono ?_; rintro e w' ⟨rfl, hw⟩; have hw := hw.symm; subst hw)
  go_ret
  exact ⟨rfl, rfl⟩
theorem feed_nil (w : World) (q : Option Addr) (n c : Nat) : Calls Try.prog 10 #[.pointer none, .slice q n c] w fun e w' => e = .returned (.tuple #[.slice none 0 0, .int .i64 10001]) ∧ w' = w := by
  go_enter Try.func10, Try.ntmps10
  go_wp2_with (go_at_call 22; refine (none_nil w).mono ?_; rintro e w' ⟨rfl, hw⟩; have hw := hw.symm; subst hw)
  go_ret2
  exact ⟨rfl, rfl⟩
end Go.Proofs.Ytlacngdbembkkaa
