/- Clone. -/
import Derived.Test.YthminmcdkcnkpaaSort
import Derived.Test.YthminmcdkcnkpaaOpen2
namespace Go.Proofs.Ythminmcdkcnkpaa
open Go.RowKit Go.Maps Go.Proofs
attribute [local go_sem] Oper.semAt_some
section
variable {w w' : World} {p b n : Nat} {room turns last : Int} {L : List En}

theorem mapsClone_ok {D : Dt} (hown : w.ownsMap Try.prog 22 waitElem b n D) : Calls Try.prog 30 #[.map (some b)] w fun e w' => e = .returned (.map (some w.heap.size)) ∧ w'.ownsMap Try.prog 22 waitElem w.heap.size n D ∧ Below w.heap.size w w' := by
  have h := AnyW.maps_Clone_owns Try.cloneM 22 waitElem b n D w hown
  change Calls Try.prog 30 _ _ _ at h
  exact h.mono fun e w' hh => ⟨hh.1, hh.2.1, hh.2.2.2⟩

set_option maxRecDepth 20000 in
set_option maxHeartbeats 3200000 in
theorem clone_ok (h : Tab w p b n room turns last L) : Calls Try.prog 25 #[.pointer (some ⟨p, 0, none⟩)] w fun e w' => ∃ p' b', e = .returned (.pointer (some ⟨p', 0, none⟩)) ∧ w.heap.size ≤ p' ∧ w.heap.size ≤ b' ∧ Tab w' p' b' n room turns last L ∧ Below w.heap.size w w' := by
  obtain ⟨D, hown, hM⟩ := h.map
  have hf15 : Fence.wide.fn 15 := trivial
  have hf30 : Fence.wide.fn 30 := trivial
  refine (callsIn_wide (n := 1)).1 ?_
  refine callsIn_of_wp Try.func25 rfl trivial ?_ rfl
  simp only [Try.ntmps25, List.size_toArray, List.length_cons, List.length_nil, Nat.reduceAdd, Nat.reduceSub, Array.replicate_succ, Array.replicate_zero, List.push_toArray, List.append_toArray, List.nil_append, List.cons_append]
  gi_wp2_with (fail)
  gi_at_call 15
  refine (callsIn_wide.2 (none_some h)).mono ?_
  rintro e w1 ⟨rfl, hw⟩
  have hw := hw.symm
  subst hw
  gi_wp2_with (fail)
  have hcls : ∀ w' : World, Below w.heap.size w w' → w'.cell? ⟨p, 0, none⟩ = some (.int .i64 room) ∧ w'.cell? ⟨p, 1, none⟩ = some (.int .i64 turns) ∧ w'.cell? ⟨p, 2, none⟩ = some (.int .u32 last) ∧ w'.cell? ⟨p, 3, none⟩ = some (.map (some b)) := fun w' hB =>
    ⟨(hB.cell (p := ⟨p, 0, none⟩) h.lt).trans h.c0, (hB.cell (p := ⟨p, 1, none⟩) h.lt).trans h.c1, (hB.cell (p := ⟨p, 2, none⟩) h.lt).trans h.c2, (hB.cell (p := ⟨p, 3, none⟩) h.lt).trans h.c3⟩
  refine wpIn_region_stg [.q 0 2, .q 1 2, .q 2 2, .q 3 2, .q 4 2, .q 5 2, .q 6 2, .q 7 2, .q 8 2, .q 9 2, .q 10 2, .q 11 2, .q 12 2, .q 13 2, .q 14 2, .q 15 2, .l 16, .q 17 2, .l 18, .q 19 2] [16, 18]
    (fun _ w' => Below w.heap.size w w') (by kernel_rfl) (by kernel_rfl) (Below.refl _ w).drew ?_
  repeat (
    refine wpStg_q (v := ?_) rfl (fun _ h => by cases h) (fun _ => rfl) rfl (fun c' w' hc' hw => ?_) ?_
    rotate_left
    · (obtain ⟨z1, z2, z3, z4⟩ := hcls w' hw; first | (go_simp; done) | (go_simp; with_reducible rfl))
    try simp only [Act.put, List.getElem_toArray, List.getElem_cons_zero, List.getElem_cons_succ, List.setIfInBounds_toArray, List.set_cons_succ, List.set_cons_zero])
  refine wpStg_l rfl ?_
  gi_wp2_with (gi_at_call 30; refine (callsIn_wide.2 (mapsClone_ok hown.drew)).mono ?_; rintro e w1 ⟨rfl, hown1, hB1⟩)
  replace hB1 : Below w.heap.size w w1 := (Below.refl w.heap.size w).drew.trans hB1
  refine ⟨hB1, ?_⟩
  clear hcls
  repeat (
    refine wpStg_q (v := ?_) rfl (fun _ h => by cases h) (fun _ => rfl) rfl (fun c' w' hc' hw => ?_) ?_
    rotate_left
    · (first | (go_simp; done) | (go_simp; with_reducible rfl))
    try simp only [Act.put, List.getElem_toArray, List.getElem_cons_zero, List.getElem_cons_succ, List.setIfInBounds_toArray, List.set_cons_succ, List.set_cons_zero])
  refine wpStg_l rfl ?_
  gi_wp2
  have hB2 : Below w.heap.size w (w1.alloc (.cells #[.int .i64 room, .int .i64 turns, .int .u32 last, .map (some w.heap.size)] 51)) := hB1.alloc hB1.size _
  refine ⟨hB2, ?_⟩
  repeat (
    refine wpStg_q (v := ?_) rfl (fun _ h => by cases h) (fun _ => rfl) rfl (fun c' w' hc' hw => ?_) ?_
    rotate_left
    · (first | (go_simp; done) | (go_simp; with_reducible rfl))
    try simp only [Act.put, List.getElem_toArray, List.getElem_cons_zero, List.getElem_cons_succ, List.setIfInBounds_toArray, List.set_cons_succ, List.set_cons_zero])
  refine wpStg_nil ?_
  gi_wp2
  go_ret
  have hlt1 : w.heap.size < w1.heap.size := hown1.lt
  exact ⟨_, _, rfl, hB1.size, Nat.le_refl _, Tab.of_obj (MapKept.heap_alloc w1 _).1 (hown1.alloc _) hM (by omega), hB2⟩
end
end Go.Proofs.Ythminmcdkcnkpaa
