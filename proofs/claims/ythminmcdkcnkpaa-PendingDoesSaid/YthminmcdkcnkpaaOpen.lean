/- Open. -/
import Derived.Test.YthminmcdkcnkpaaNext
namespace Go.Proofs.Ythminmcdkcnkpaa
open Go.RowKit Go.Maps
attribute [local go_sem] Oper.semAt_some
section
variable {w w' : World} {p b n : Nat} {room turns last : Int} {L : List En}

theorem Tab.setTurns (h : Tab w p b n room turns last L) (x : Int) : Tab (w.setCell ⟨p, 1, none⟩ (.int .i64 x)) p b n room x last L := by
  obtain ⟨D, hm, hM⟩ := h.map
  have hlt := h.lt
  refine ⟨?_, ?_, ?_, ?_, fun j => ?_, by simpa [World.setCell] using hlt, h.ne, D, hm.setCell (fun e => h.ne e.symm) _, hM⟩
  · rw [World.cell?_setCell_other _ _ _ _ (by simp)]; exact h.c0
  · exact World.cell?_setCell_same _ _ _ h.c1
  · rw [World.cell?_setCell_other _ _ _ _ (by simp)]; exact h.c2
  · rw [World.cell?_setCell_other _ _ _ _ (by simp)]; exact h.c3
  · rw [World.frozen?_setCell]; exact h.fz j

theorem ext_turned {b : Nat} (h : w.mapTurned w' b) : Ext (fun k => k = b) w w' := (Ext.refl _ w).grown h.grown (fun j e => .inl (by injection e with e; exact e.symm))

theorem Tab.turned {L' : List En} {n' : Nat} {D' : Dt} (h1 : Tab w p b n room turns last L) (ht : w.mapTurned w' b) (hm : w'.ownsMap Try.prog 22 waitElem b n' D') (hM : Mp wd D' L') : Tab w' p b n' room turns last L' := by
  have hE2 := ext_turned ht
  have h0 := h1.lt
  have hp : ¬ p = b := h1.ne
  exact ⟨(hE2.cell (p := ⟨p, 0, none⟩) h0 hp).trans h1.c0, (hE2.cell (p := ⟨p, 1, none⟩) h0 hp).trans h1.c1, (hE2.cell (p := ⟨p, 2, none⟩) h0 hp).trans h1.c2, (hE2.cell (p := ⟨p, 3, none⟩) h0 hp).trans h1.c3,
      fun j => (hE2.frozen (p := ⟨p, j, none⟩) h0 hp).trans (h1.fz j), Nat.lt_of_lt_of_le h0 hE2.size, hp, _, hm, hM⟩

set_option maxHeartbeats 1600000 in
theorem open_arg (h : Tab w p b n room turns last L) {k : Int} (hk : isAsk k = false) : Calls Try.prog 7 #[.pointer (some ⟨p, 0, none⟩), .int .i64 k] w fun e w' => e = .returned (.tuple #[.int .u32 0, .int .i64 10001]) ∧ w' = w := by
  have ha := answer_ok k w
  rw [hk] at ha
  go_enter Try.func7, Try.ntmps7
  go_wp2_with fail
  go_at_call 14
  refine ha.mono ?_
  rintro e w1 ⟨rfl, hw⟩
  have hw := hw.symm
  subst hw
  go_wp2
  go_ret2
  exact ⟨rfl, rfl⟩

set_option maxHeartbeats 3200000 in
theorem open_full (h : Tab w p b n room turns last L) {k : Int} (hk : isAsk k = true) (hroom : room ≤ L.length) : Calls Try.prog 7 #[.pointer (some ⟨p, 0, none⟩), .int .i64 k] w fun e w' => e = .returned (.tuple #[.int .u32 0, .int .i64 10006]) ∧ Ext (fun _ => False) w w' := by
  have ha := answer_ok k w
  rw [hk] at ha
  have hf15 : Fence.wide.fn 15 := trivial
  have hf14 : Fence.wide.fn 14 := trivial
  refine (callsIn_wide (n := 1)).1 ?_
  refine callsIn_of_wp Try.func7 rfl trivial ?_ rfl
  simp only [Try.ntmps7, List.size_toArray, List.length_cons, List.length_nil, Nat.reduceAdd, Nat.reduceSub, Array.replicate_succ, Array.replicate_zero, List.push_toArray, List.append_toArray, List.nil_append, List.cons_append]
  gi_wp2_with (fail)
  gi_at_call 14
  refine (callsIn_wide.2 ha).mono ?_
  rintro e w1 ⟨rfl, hw⟩
  have hw := hw.symm
  subst hw
  gi_wp2_with (fail)
  gi_at_call 15
  refine (callsIn_wide.2 (none_some h)).mono ?_
  rintro e w1 ⟨rfl, hw⟩
  have hw := hw.symm
  subst hw
  gi_wp2_with (fail)
  have hcls : ∀ w' : World, Below w.heap.size w w' → w'.cell? ⟨p, 0, none⟩ = some (.int .i64 room) ∧ w'.cell? ⟨p, 3, none⟩ = some (.map (some b)) ∧ (∀ ty, (Builtin.len_ #[49] ty #[.map (some b)]).run Try.prog w' = .ok (.int .i64 (L.length : Nat)) w') := fun w' hB => by
    have hE' : Ext (fun _ => False) w w' := Ext.of_below hB
    have hT' := h.keep hE' (fun h => h) (fun h => h)
    obtain ⟨D, hm, hM⟩ := hT'.map
    refine ⟨hT'.c0, hT'.c3, fun ty => ?_⟩
    rw [hm.len Try.underlying49, hM.size]
  refine wpIn_region_stg [.q 0 0, .q 1 0, .q 2 0, .q 3 0, .q 4 0, .q 5 0, .q 6 0, .q 7 0, .q 8 0, .q 9 0] []
      (fun _ w' => Below w.heap.size w w') (by kernel_rfl) (by kernel_rfl) (Below.refl _ w).drew ?_
  have hge : room ≤ (L.length : Int) := hroom
  repeat (
      refine wpStg_q (v := ?_) rfl (fun _ h => by cases h) (fun _ => rfl) rfl (fun c' w' hc' hw => ?_) ?_
      rotate_left
      · (obtain ⟨x1, x2, x3⟩ := hcls w' hw; first | (go_simp; done) | (go_simp; with_reducible rfl))
      try simp only [Act.put, List.getElem_toArray, List.getElem_cons_zero, List.getElem_cons_succ, List.setIfInBounds_toArray, List.set_cons_succ, List.set_cons_zero])
  refine wpStg_nil ?_
  gi_wp2
  go_ret2
  exact ⟨rfl, (Ext.refl _ w).drew⟩
end
end Go.Proofs.Ythminmcdkcnkpaa
