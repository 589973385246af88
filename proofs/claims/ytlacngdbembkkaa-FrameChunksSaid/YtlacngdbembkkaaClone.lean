/- The document's Held; Clone. -/
import Derived.Test.YtlacngdbembkkaaRefFeed
namespace Go.Proofs.Ytlacngdbembkkaa
open Go.RowKit Go.Shelf
attribute [local go_sem] Oper.semAt_some

set_option maxHeartbeats 1600000 in
theorem refHeld_ok {w : World} {Av : Nat → Prop} {av : Value} {al : List Int} {td : Int} {failed : Bool} (ha : Bs w Av av al) (hba : Byt al) (hn : al.length ≤ 1000000) :
    Calls Try.prog 14 #[.agg #[av, .int .i64 td, .bool failed]] w fun e w' => e = .returned (.int .i64 ((heldOf (splitL al).2.2 (splitL al).2.1).length : Nat)) ∧ Below w.heap.size w w' := by
  have ha0 := ha
  obtain ⟨qa, ca, rfl, hca, _⟩ := ha
  obtain ⟨fs, rest, bad, hS⟩ : ∃ fs rest bad, splitL al = (fs, rest, bad) := ⟨_, _, _, rfl⟩
  have hb1 : Bs (w.alloc (.cells #[.slice qa al.length ca, .int .i64 td, .bool failed] 29)) Av (.slice qa al.length ca) al := ha0.keep ((Ext.refl (fun _ => False) w).alloc _) (fun _ _ h => h.elim)
  have hsp := refSplit_ok hb1 hba hn
  rw [hS] at hsp ⊢
  simp only at hsp ⊢
  cases bad with
  | true =>
    go_enter Try.func14, Try.ntmps14
    go_wp2_with (go_at_call 17; refine hsp.mono ?_; rintro e w4 ⟨fv, lv, rfl, hfr, hlv, hB4⟩; obtain ⟨pl, cl, rfl, _, _⟩ := hlv; clear hsp)
    go_ret
    exact ⟨rfl, ((Below.refl _ w).alloc (Nat.le_refl _) _).trans (hB4.mono (by simp))⟩
  | false =>
    go_enter Try.func14, Try.ntmps14
    go_wp2_with (go_at_call 17; refine hsp.mono ?_; rintro e w4 ⟨fv, lv, rfl, hfr, hlv, hB4⟩; obtain ⟨pl, cl, rfl, _, _⟩ := hlv; clear hsp)
    go_ret
    exact ⟨rfl, ((Below.refl _ w).alloc (Nat.le_refl _) _).trans (hB4.mono (by simp))⟩

set_option maxHeartbeats 3200000 in
theorem clone_ok {w : World} {AvF : Nat → Prop} {p : Nat} {held : List Int} {failed : Bool} (h : Fm w AvF p held failed) (hn : held.length ≤ 1000000) :
    Calls Try.prog 21 #[.pointer (some ⟨p, 0, none⟩)] w fun e w' => ∃ p', e = .returned (.pointer (some ⟨p', 0, none⟩)) ∧ w.heap.size ≤ p' ∧ Fm w' (fun k => k < w.heap.size ∨ k = p') p' held failed ∧ Below w.heap.size w w' := by
  obtain ⟨hv, h0, hbs⟩ := h.c0
  have h1 := h.c1
  have hbs0 := hbs
  obtain ⟨q, cp, rfl, hcp, hbs⟩ := hbs
  have hf22 : Fence.wide.fn 22 := trivial
  have hf24 : Fence.wide.fn 24 := trivial
  refine (callsIn_wide (n := 1)).1 ?_
  refine callsIn_of_wp Try.func21 rfl trivial ?_ rfl
  simp only [Try.ntmps21, List.size_toArray, List.length_cons, List.length_nil, Nat.reduceAdd, Nat.reduceSub, Array.replicate_succ, Array.replicate_zero, List.push_toArray, List.append_toArray, List.nil_append, List.cons_append]
  gi_wp2_with (gi_at_call 22; refine (callsIn_wide.2 (none_some h)).mono ?_; rintro e w' ⟨rfl, hw⟩; have hw := hw.symm; subst hw)
  refine wpIn_region_stg [.q 0 2, .q 1 2, .q 2 2, .q 3 2, .q 5 2, .q 6 2, .q 7 2, .q 8 2, .l 4, .q 9 2, .l 10, .q 11 2] [4, 10]
    (fun _ w' => w'.cell? ⟨p, 0, none⟩ = some (.slice q held.length cp) ∧ w'.cell? ⟨p, 1, none⟩ = some (.bool failed)) (by kernel_rfl) (by kernel_rfl) ⟨h0, h1⟩ ?_
  repeat (
    refine wpStg_q (v := ?_) rfl (fun _ h => by cases h) (fun _ => rfl) rfl (fun c' w' hc' hw => ?_) ?_
    rotate_left
    · (obtain ⟨x1, x2⟩ := hw; first | (go_simp; done) | (go_simp; with_reducible rfl))
    try simp only [Act.put, List.getElem_toArray, List.getElem_cons_zero, List.getElem_cons_succ, List.setIfInBounds_toArray, List.set_cons_succ, List.set_cons_zero])
  refine wpStg_l rfl ?_
  gi_wp2_with (gi_at_call 24; refine (callsIn_wide.2 (clone_any _ _ _ _ hbs0.drew hn)).mono ?_; rintro e w1 ⟨v1, rfl, hown1, hB1⟩)
  replace hB1 : Below w.heap.size w w1 := (Below.refl w.heap.size w).drew.trans hB1
  refine ⟨⟨(hB1.cell (p := ⟨p, 0, none⟩) h.lt).trans h0, (hB1.cell (p := ⟨p, 1, none⟩) h.lt).trans h1⟩, ?_⟩
  obtain ⟨q1, c1, rfl⟩ := row_slice hown1
  repeat (
    refine wpStg_q (v := ?_) rfl (fun _ h => by cases h) (fun _ => rfl) rfl (fun c' w' hc' hw => ?_) ?_
    rotate_left
    · (obtain ⟨x1, x2⟩ := hw; first | (go_simp; done) | (go_simp; with_reducible rfl))
    try simp only [Act.put, List.getElem_toArray, List.getElem_cons_zero, List.getElem_cons_succ, List.setIfInBounds_toArray, List.set_cons_succ, List.set_cons_zero])
  refine wpStg_l rfl ?_
  gi_wp2
  have hB2 : Below w.heap.size w (w1.alloc (.cells #[.slice q1 held.length c1, .bool failed, .bool true] 47)) := hB1.alloc hB1.size _
  refine ⟨⟨(hB2.cell (p := ⟨p, 0, none⟩) h.lt).trans h0, (hB2.cell (p := ⟨p, 1, none⟩) h.lt).trans h1⟩, ?_⟩
  repeat (
    refine wpStg_q (v := ?_) rfl (fun _ h => by cases h) (fun _ => rfl) rfl (fun c' w' hc' hw => ?_) ?_
    rotate_left
    · (obtain ⟨x1, x2⟩ := hw; first | (go_simp; done) | (go_simp; with_reducible rfl))
    try simp only [Act.put, List.getElem_toArray, List.getElem_cons_zero, List.getElem_cons_succ, List.setIfInBounds_toArray, List.set_cons_succ, List.set_cons_zero])
  refine wpStg_nil ?_
  gi_wp2
  go_ret
  refine ⟨_, rfl, hB1.size, Fm.of_obj (World.alloc_heap_new w1 _) ?_ (.inr rfl), hB2⟩
  have hb5 : Bs w1 (fun k => k < w.drew.heap.size) (.slice q1 held.length c1) held := Own5.bs hown1
  have hb6 : Bs w1 (fun k => k < w.heap.size ∨ k = w1.heap.size) (.slice q1 held.length c1) held := hb5.mono fun k hk e => by
    rcases e with e | e
    · exact e
    · omega
  exact hb6.keep ((Ext.refl (fun _ => False) w1).alloc _) (fun _ _ h => h.elim)
end Go.Proofs.Ytlacngdbembkkaa
