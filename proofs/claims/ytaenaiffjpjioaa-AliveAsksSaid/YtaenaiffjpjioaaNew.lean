/- What New, Clone and the two functions of the record beside the watch do, by walks over their code. -/
import Derived.Test.YtaenaiffjpjioaaAlive
namespace Go.Proofs.Ytaenaiffjpjioaa
open Go.RowKit
namespace Alive

theorem is_alloc (w : World) (a d s : Int) : Is (w.alloc (.cells #[.int .i64 a, .int .i64 d, .int .i64 s] 37)) w.heap.size a d s := by
  refine ⟨?_, ?_, ?_, ?_⟩
  · rw [World.cell?_alloc_at _ _ _ _ rfl]; rfl
  · rw [World.cell?_alloc_at _ _ _ _ rfl]; rfl
  · rw [World.cell?_alloc_at _ _ _ _ rfl]; rfl
  · rw [World.frozen?_alloc_at _ _ _ _ rfl]

set_option maxHeartbeats 400000 in
theorem new_ok (ask dead : Int) (w : World) (h1 : 1 ≤ ask) (h2 : ask ≤ 1000) (h3 : ask < dead) (h4 : dead ≤ 100000) :
    Calls Try.prog 7 #[.int .i64 ask, .int .i64 dead] w fun e w' => e = .returned (.pointer (some ⟨w.heap.size, 0, none⟩)) ∧ Is w' w.heap.size ask dead 0 ∧ Ext (fun _ => False) w w' := by
  go_enter Try.func7, Try.ntmps7
  go_wp2
  go_ret
  exact ⟨rfl, is_alloc w ask dead 0, (Ext.refl _ w).alloc _⟩

set_option maxHeartbeats 400000 in
theorem new_bad (ask dead : Int) (w : World) (h : ask < 1 ∨ 1000 < ask ∨ dead ≤ ask ∨ 100000 < dead) :
    Calls Try.prog 7 #[.int .i64 ask, .int .i64 dead] w fun e w' => e = .returned (.pointer none) ∧ w' = w := by
  go_enter Try.func7, Try.ntmps7
  go_wp2
  all_goals (go_ret; exact ⟨rfl, rfl⟩)

set_option maxHeartbeats 400000 in
theorem clone_some (b : Nat) (ask dead since : Int) (w : World) (h : Is w b ask dead since) (ha : (ask == 0) = false) :
    Calls Try.prog 14 #[.pointer (some ⟨b, 0, none⟩)] w fun e w' => e = .returned (.pointer (some ⟨w.heap.size, 0, none⟩)) ∧ Is w' w.heap.size ask dead since ∧ Ext (fun _ => False) w w' := by
  obtain ⟨h0, h1, h2, h3⟩ := h
  go_enter Try.func14, Try.ntmps14
  go_wp2_with fail
  go_at_call 15
  refine (none_some b ask _ h0 ha).mono ?_
  rintro e w1 ⟨rfl, rfl⟩
  go_wp2
  go_ret
  exact ⟨rfl, is_alloc w1 ask dead since, (Ext.refl _ w1).alloc _⟩

set_option maxHeartbeats 400000 in
theorem rheard (ask dead since : Int) (w : World) :
    Calls Try.prog 12 #[.agg #[.int .i64 ask, .int .i64 dead, .int .i64 since]] w fun e w' => e = .returned (.agg #[.int .i64 ask, .int .i64 dead, .int .i64 (if since < dead then 0 else since)]) ∧ Ext (fun _ => False) w w' := by
  go_enter Try.func12, Try.ntmps12
  go_wp2
  all_goals refine bodyPost_ret ?_ rfl ⟨rfl, ((Ext.refl _ w).alloc _).alloc _⟩
  all_goals (simp [results, Try.results12, go_sem, *] <;> omega)

set_option maxHeartbeats 400000 in
theorem rtick (ask dead since : Int) (w : World) (h0 : 0 < ask) (h1 : since ≤ dead) (h2 : 0 ≤ since) (h3 : dead ≤ 100000) :
    Calls Try.prog 13 #[.agg #[.int .i64 ask, .int .i64 dead, .int .i64 since]] w fun e w' => e = .returned (.tuple #[.agg #[.int .i64 ask, .int .i64 dead, .int .i64 (step dead since)], .int .i64 (how ask dead (step dead since))]) ∧ Ext (fun _ => False) w w' := by
  have ha' : (ask == 0) = false := by simp; omega
  by_cases hd : since = dead
  · have hd' : (since == dead) = true := by simp [hd]
    have e1 : step dead since = since := by simp [step, hd]
    have e2 : how ask dead since = 2 := by simp [how, hd]
    have hlt : ¬ since < dead := by omega
    rw [e1, e2]
    clear hd e1 e2
    go_enter Try.func13, Try.ntmps13
    go_wp2
    refine bodyPost_ret ?_ rfl ⟨rfl, ((Ext.refl _ w).alloc _).alloc _⟩
    simp [results, Try.results13, go_sem]
  · have e1 : step dead since = since + 1 := by simp [step, hd]
    have hlt : since < dead := by omega
    rw [e1]
    clear e1 hd
    by_cases hd : since + 1 = dead
    · have hd' : (since + 1 == dead) = true := by simp [hd]
      have e2 : how ask dead (since + 1) = 2 := by simp [how, hd]
      rw [e2]
      clear hd e2
      go_enter Try.func13, Try.ntmps13
      go_wp2
      refine bodyPost_ret ?_ rfl ⟨rfl, ((Ext.refl _ w).alloc _).alloc _⟩
      simp [results, Try.results13, go_sem]
    · have hd' : (since + 1 == dead) = false := by simp [hd]
      by_cases hm : (since + 1) % ask = 0
      · have hm' : ((since + 1) % ask == 0) = true := by simp [hm]
        have e2 : how ask dead (since + 1) = 1 := by simp [how, hd, hm]
        rw [e2]
        clear hd e2 hm
        go_enter Try.func13, Try.ntmps13
        go_wp2
        refine bodyPost_ret ?_ rfl ⟨rfl, ((Ext.refl _ w).alloc _).alloc _⟩
        simp [results, Try.results13, go_sem]
      · have hm' : ((since + 1) % ask == 0) = false := by simp [hm]
        have e2 : how ask dead (since + 1) = 0 := by simp [how, hd, hm]
        rw [e2]
        clear hd e2 hm
        go_enter Try.func13, Try.ntmps13
        go_wp2
        refine bodyPost_ret ?_ rfl ⟨rfl, ((Ext.refl _ w).alloc _).alloc _⟩
        simp [results, Try.results13, go_sem]
end Alive
end Go.Proofs.Ytaenaiffjpjioaa
