/- cmp.Compare; the closure of List. -/
import Derived.Test.YthminmcdkcnkpaaNext
namespace Go.Proofs.Ythminmcdkcnkpaa
open Go.RowKit Go.Maps
attribute [local go_sem] Oper.semAt_some
section
variable {w w' : World} {p b n : Nat} {room turns last : Int} {L : List En}

def cmpI (x y : Int) : Int := if x < y then -1 else if y < x then 1 else 0

theorem nan_ok (x : Int) (w : World) : Calls Try.prog 28 #[.int .i64 x] w fun e w' => e = .returned (.bool false) ∧ w' = w := by
  go_enter Try.func28, Try.ntmps28
  go_wp2
  go_ret
  exact ⟨by simp, rfl⟩

set_option maxHeartbeats 800000 in
theorem compare_ok (x y : Int) (w : World) : Calls Try.prog 20 #[.int .i64 x, .int .i64 y] w fun e w' => e = .returned (.int .i64 (cmpI x y)) ∧ w' = w := by
  unfold cmpI
  by_cases h1 : x < y
  · rw [if_pos h1]
    go_enter Try.func20, Try.ntmps20
    go_wp2_with fail
    go_at_call 28
    refine (nan_ok _ _).mono ?_
    rintro e w1 ⟨rfl, hw⟩
    have hw := hw.symm
    subst hw
    go_wp2_with fail
    go_at_call 28
    refine (nan_ok _ _).mono ?_
    rintro e w1 ⟨rfl, hw⟩
    have hw := hw.symm
    subst hw
    go_wp2
    go_ret
    exact ⟨rfl, rfl⟩
  · rw [if_neg h1]
    by_cases h2 : y < x
    · rw [if_pos h2]
      go_enter Try.func20, Try.ntmps20
      go_wp2_with fail
      go_at_call 28
      refine (nan_ok _ _).mono ?_
      rintro e w1 ⟨rfl, hw⟩
      have hw := hw.symm
      subst hw
      go_wp2_with fail
      go_at_call 28
      refine (nan_ok _ _).mono ?_
      rintro e w1 ⟨rfl, hw⟩
      have hw := hw.symm
      subst hw
      go_wp2
      go_ret
      exact ⟨rfl, rfl⟩
    · rw [if_neg h2]
      go_enter Try.func20, Try.ntmps20
      go_wp2_with fail
      go_at_call 28
      refine (nan_ok _ _).mono ?_
      rintro e w1 ⟨rfl, hw⟩
      have hw := hw.symm
      subst hw
      go_wp2_with fail
      go_at_call 28
      refine (nan_ok _ _).mono ?_
      rintro e w1 ⟨rfl, hw⟩
      have hw := hw.symm
      subst hw
      go_wp2
      go_ret
      exact ⟨rfl, rfl⟩

set_option maxHeartbeats 3200000 in
theorem closure_ok {B : Nat} (h : Tab w p b n room turns last L) (hB : w.cell? ⟨B, 0, none⟩ = some (.pointer (some ⟨p, 0, none⟩))) {x y : Int} (hx : 0 ≤ x ∧ x < 4294967296) (hy : 0 ≤ y ∧ y < 4294967296) :
    Calls Try.prog 19 #[.int .u32 x, .int .u32 y, .pointer (some ⟨B, 0, none⟩)] w fun e w' => e = .returned (.int .i64 (cmpI (valAt L x).2 (valAt L y).2)) ∧ ∃ q, w' = w.drewN q := by
  have hf20 : Fence.wide.fn 20 := trivial
  have hfld : ∀ (a c : Int) (w : World), (Instr.field 55 (.agg #[.int .i64 a, .int .i64 c]) 1).run Try.prog w = .ok (.int .i64 c) w := fun _ _ _ => by kernel_rfl
  have hcls : ∀ w' : World, (∃ q, w' = w.drewN q) → w'.cell? ⟨B, 0, none⟩ = some (.pointer (some ⟨p, 0, none⟩)) ∧ w'.cell? ⟨p, 3, none⟩ = some (.map (some b)) ∧
      (Instr.lookup 49 (.map (some b)) (.int .u32 x) false).run Try.prog w' = .ok (.agg #[.int .i64 (valAt L x).1, .int .i64 (valAt L x).2]) w' ∧ (Instr.lookup 49 (.map (some b)) (.int .u32 y) false).run Try.prog w' = .ok (.agg #[.int .i64 (valAt L y).1, .int .i64 (valAt L y).2]) w' := by
    rintro w' ⟨q, rfl⟩
    have hT := h.keep ((Ext.refl (fun _ => False) w).drewN q) (fun h => h) (fun h => h)
    exact ⟨hB, hT.c3, hT.look1 hx, hT.look1 hy⟩
  generalize valAt L x = vx at hcls ⊢
  generalize valAt L y = vy at hcls ⊢
  obtain ⟨x1, x2⟩ := vx
  obtain ⟨y1, y2⟩ := vy
  simp only at hcls ⊢
  refine (callsIn_wide (n := 1)).1 ?_
  refine callsIn_of_wp Try.func19 rfl trivial ?_ rfl
  simp only [Try.ntmps19, List.size_toArray, List.length_cons, List.length_nil, Nat.reduceAdd, Nat.reduceSub, Array.replicate_succ, Array.replicate_zero, List.push_toArray, List.append_toArray, List.nil_append, List.cons_append]
  gi_wp2
  refine wpIn_region_stg [.q 0 1, .q 1 1, .q 2 1, .q 3 1, .q 4 1, .q 5 1, .q 6 1, .q 7 1, .q 8 1, .q 9 1, .q 10 1, .q 11 1, .q 12 1, .q 13 1, .l 14, .q 15 1] [14]
    (fun _ w' => ∃ q, w' = w.drewN q) (by kernel_rfl) (by kernel_rfl) ⟨1, rfl⟩ ?_
  repeat (
      refine wpStg_q (v := ?_) rfl (fun _ h => by cases h) (fun _ => rfl) rfl (fun c' w' hc' hw => ?_) ?_
      rotate_left
      · (obtain ⟨z1, z2, z3, z4⟩ := hcls w' hw; first | (go_simp; done) | (go_simp; with_reducible rfl))
      try simp only [Act.put, List.getElem_toArray, List.getElem_cons_zero, List.getElem_cons_succ, List.setIfInBounds_toArray, List.set_cons_succ, List.set_cons_zero])
  refine wpStg_l rfl ?_
  gi_wp2_with (gi_at_call 20; refine (callsIn_wide.2 (compare_ok _ _ _)).mono ?_; rintro e w1 ⟨rfl, hw⟩; have hw := hw.symm; subst hw)
  refine ⟨⟨1, rfl⟩, ?_⟩
  repeat (
      refine wpStg_q (v := ?_) rfl (fun _ h => by cases h) (fun _ => rfl) rfl (fun c' w' hc' hw => ?_) ?_
      rotate_left
      · (first | (go_simp; done) | (go_simp; with_reducible rfl))
      try simp only [Act.put, List.getElem_toArray, List.getElem_cons_zero, List.getElem_cons_succ, List.setIfInBounds_toArray, List.set_cons_succ, List.set_cons_zero])
  refine wpStg_nil ?_
  gi_wp2
  go_ret
  exact ⟨rfl, 1, rfl⟩
end
end Go.Proofs.Ythminmcdkcnkpaa
