/- What each method of the watch does in memory, by walks over its code. -/
import Derived.Test.YtaenaiffjpjioaaRows
import Derived.WalkKit
import Derived.WalkSpells
import Derived.WalkLawsBesides
import Derived.Deep.QuietTactic
import Derived.BigQuiet
import Derived.Lib.Hide
namespace Go.Proofs.Ytaenaiffjpjioaa
open Go.RowKit

/-- Of the blocks that were there only those of S may have changed. -/
structure Ext (S : Nat → Prop) (w w' : World) : Prop where
  os : w'.os = w.os
  tape : w'.tape = w.tape
  output : w'.output = w.output
  size : w.heap.size ≤ w'.heap.size
  block : ∀ k, k < w.heap.size → ¬ S k → w'.heap[k]? = w.heap[k]?

namespace Ext
theorem refl (S) (w : World) : Ext S w w := ⟨rfl, rfl, rfl, Nat.le_refl _, fun _ _ _ => rfl⟩
theorem trans {S} {a b c : World} (h : Ext S a b) (k : Ext S b c) : Ext S a c :=
  ⟨k.os.trans h.os, k.tape.trans h.tape, k.output.trans h.output, Nat.le_trans h.size k.size, fun i hi hs => (k.block i (Nat.lt_of_lt_of_le hi h.size) hs).trans (h.block i hi hs)⟩
theorem mono {S T : Nat → Prop} {a b : World} (h : Ext S a b) (hs : ∀ k, k < a.heap.size → S k → T k) : Ext T a b :=
  ⟨h.os, h.tape, h.output, h.size, fun i hi ht => h.block i hi (fun s => ht (hs i hi s))⟩
theorem drew {S} {a w : World} (h : Ext S a w) : Ext S a w.drew := ⟨h.os, h.tape, h.output, h.size, h.block⟩
theorem drewN {S} {a w : World} (h : Ext S a w) (n : Nat) : Ext S a (w.drewN n) := ⟨h.os, h.tape, h.output, h.size, h.block⟩
theorem alloc {S} {a w : World} (h : Ext S a w) (o : Obj) : Ext S a (w.alloc o) :=
  h.trans ⟨rfl, rfl, rfl, by simp, fun k hk _ => Below.heap_alloc _ _ _ hk⟩
theorem setCell {S} {a w : World} (h : Ext S a w) {p : Addr} (hp : S p.block ∨ a.heap.size ≤ p.block) (u : Value) : Ext S a (w.setCell p u) :=
  ⟨h.os, h.tape, h.output, by simpa [World.setCell] using h.size, fun k hk hs => by
    rw [Below.heap_setCell _ _ _ _ (by rintro rfl; rcases hp with hp | hp; exact hs hp; omega)]; exact h.block k hk hs⟩
theorem cell {S} {w w' : World} (h : Ext S w w') {p : Addr} (hp : p.block < w.heap.size) (hs : ¬ S p.block) : w'.cell? p = w.cell? p := World.cell?_of_block (w := w) (h.block p.block hp hs)
theorem frozen {S} {w w' : World} (h : Ext S w w') {p : Addr} (hp : p.block < w.heap.size) (hs : ¬ S p.block) : w'.frozen? p = w.frozen? p := World.frozen?_of_block (w := w) (h.block p.block hp hs)
theorem below {S} {w w' : World} (h : Ext S w w') {B : Nat} (hB : B ≤ w.heap.size) (hs : ∀ k, k < B → ¬ S k) : Below B w w' :=
  ⟨h.os, h.tape, h.output, h.size, fun k hk => h.block k (Nat.lt_of_lt_of_le hk hB) (hs k hk)⟩
end Ext

namespace Alive
/-- A watch in memory. -/
structure Is (w : World) (b : Nat) (ask dead since : Int) : Prop where
  c0 : w.cell? ⟨b, 0, none⟩ = some (.int .i64 ask)
  c1 : w.cell? ⟨b, 1, none⟩ = some (.int .i64 dead)
  c2 : w.cell? ⟨b, 2, none⟩ = some (.int .i64 since)
  f2 : w.frozen? ⟨b, 2, none⟩ = false

set_option maxHeartbeats 400000 in
theorem none_some (b : Nat) (ask : Int) (w : World) (h0 : w.cell? ⟨b, 0, none⟩ = some (.int .i64 ask)) (ha : (ask == 0) = false) :
    Calls Try.prog 15 #[.pointer (some ⟨b, 0, none⟩)] w fun e w' => e = .returned (.bool false) ∧ w' = w := by
  go_enter Try.func15, Try.ntmps15
  go_wp2
  go_ret
  exact ⟨rfl, rfl⟩

set_option maxHeartbeats 400000 in
theorem none_nil (w : World) :
    Calls Try.prog 15 #[.pointer none] w fun e w' => e = .returned (.bool true) ∧ w' = w := by
  go_enter Try.func15, Try.ntmps15
  go_wp2
  go_ret
  exact ⟨rfl, rfl⟩

set_option maxHeartbeats 400000 in
theorem over_nil (w : World) :
    Calls Try.prog 10 #[.pointer none] w fun e w' => e = .returned (.bool true) ∧ ∃ n, w' = w.drewN n := by
  go_enter Try.func10, Try.ntmps10
  go_wp2
  go_quiet ((go_at_call 15; exact Calls.quiet_of_same (none_nil _)))
  go_wp2
  go_ret
  exact ⟨rfl, _, rfl⟩

set_option maxHeartbeats 400000 in
theorem over_some (b : Nat) (ask dead since : Int) (w : World) (h : Is w b ask dead since) (ha : (ask == 0) = false) :
    Calls Try.prog 10 #[.pointer (some ⟨b, 0, none⟩)] w fun e w' => e = .returned (.bool (since == dead)) ∧ ∃ n, w' = w.drewN n := by
  obtain ⟨h0, h1, h2, h3⟩ := h
  go_enter Try.func10, Try.ntmps10
  go_wp2
  go_quiet ((go_at_call 15; exact Calls.quiet_of_same (none_some b ask _ (by simpa using h0) ha)))
  go_wp2
  go_ret
  exact ⟨rfl, _, rfl⟩

/-- What a tick tells, from how many there were behind it. -/
def how (ask dead s : Int) : Int := if s = dead then 2 else if s % ask = 0 then 1 else 0
/-- How many there are behind a tick. -/
def step (dead since : Int) : Int := if since = dead then dead else since + 1

set_option maxHeartbeats 400000 in
theorem tick_over (b : Nat) (ask dead : Int) (w : World) (h : Is w b ask dead dead) (ha : (ask == 0) = false) :
    Calls Try.prog 9 #[.pointer (some ⟨b, 0, none⟩)] w fun e w' => e = .returned (.int .i64 2) ∧ ∃ n, w' = w.drewN n := by
  have h' := h
  obtain ⟨h0, h1, h2, h3⟩ := h
  go_enter Try.func9, Try.ntmps9
  go_wp2_with fail
  go_at_call 10
  refine (over_some b ask dead dead _ h' ha).mono ?_
  rintro e w1 ⟨rfl, n, rfl⟩
  go_wp2_with fail
  go_at_call 10
  refine (over_some b ask dead dead _ ⟨by simpa using h0, by simpa using h1, by simpa using h2, by simpa using h3⟩ ha).mono ?_
  rintro e w1 ⟨rfl, m, rfl⟩
  go_wp2
  go_ret
  exact ⟨rfl, _, rfl⟩

theorem Is.set {w : World} {b : Nat} {ask dead since : Int} (h : Is w b ask dead since) (n : Nat) (x : Int) : Is ((w.drewN n).setCell ⟨b, 2, none⟩ (.int .i64 x)) b ask dead x :=
  ⟨(World.cell?_setCell_other _ _ _ _ (by simp)).trans h.c0, (World.cell?_setCell_other _ _ _ _ (by simp)).trans h.c1, World.cell?_setCell_same' _ _ _ (by simp [h.c2]), (World.frozen?_setCell _ _ _ _).trans h.f2⟩
theorem Is.drewN {w : World} {b : Nat} {ask dead since : Int} (h : Is w b ask dead since) (n : Nat) : Is (w.drewN n) b ask dead since := ⟨h.c0, h.c1, h.c2, h.f2⟩

set_option maxHeartbeats 400000 in
theorem tick_dead (b : Nat) (ask dead since : Int) (w : World) (h : Is w b ask dead since) (ha : (ask == 0) = false) (hs : since + 1 = dead) (h0s : 0 ≤ since) (hle : since ≤ 100000) :
    Calls Try.prog 9 #[.pointer (some ⟨b, 0, none⟩)] w fun e w' => e = .returned (.int .i64 2) ∧ Is w' b ask dead dead ∧ Ext (fun k => k = b) w w' := by
  have h' := h
  obtain ⟨h0, h1, h2, h3⟩ := h
  have hne : (since == dead) = false := by simp; omega
  have Hs := Lib.hid hs
  clear hs
  go_enter Try.func9, Try.ntmps9
  go_wp2_with fail
  go_at_call 10
  refine (over_some b ask dead since _ h' ha).mono ?_
  rintro e w1 ⟨rfl, n, rfl⟩
  go_wp2_with fail
  go_at_call 10
  refine (over_some b ask dead (since + 1) _ (h'.set n _) ha).mono ?_
  rintro e w1 ⟨rfl, m, rfl⟩
  have ht : (since + 1 == dead) = true := by simp [Hs.out]
  go_wp2
  go_ret
  refine ⟨rfl, ?_, ?_⟩
  · have := (h'.set n (since + 1)).drewN m
    rw [Hs.out] at this ⊢
    exact this
  · exact (((Ext.refl (fun k => k = b) w).drewN n).setCell (p := ⟨b, 2, none⟩) (.inl rfl) _).drewN m

set_option maxHeartbeats 400000 in
theorem tick_on (b : Nat) (ask dead since : Int) (w : World) (h : Is w b ask dead since) (ha : 0 < ask) (hs : since + 1 < dead) (h0s : 0 ≤ since) (hb : dead ≤ 100000) :
    Calls Try.prog 9 #[.pointer (some ⟨b, 0, none⟩)] w fun e w' => e = .returned (.int .i64 (if (since + 1) % ask = 0 then 1 else 0)) ∧ Is w' b ask dead (since + 1) ∧ Ext (fun k => k = b) w w' := by
  have h' := h
  obtain ⟨h0, h1, h2, h3⟩ := h
  have ha' : (ask == 0) = false := by simp; omega
  have hne : (since == dead) = false := by simp; omega
  have hne2 : (since + 1 == dead) = false := by simp; omega
  have hle : since ≤ 100000 := by omega
  go_enter Try.func9, Try.ntmps9
  go_wp2_with fail
  go_at_call 10
  refine (over_some b ask dead since _ h' ha').mono ?_
  rintro e w1 ⟨rfl, n, rfl⟩
  go_wp2_with fail
  go_at_call 10
  refine (over_some b ask dead (since + 1) _ (h'.set n _) ha').mono ?_
  rintro e w1 ⟨rfl, m, rfl⟩
  go_wp2
  have h4 := ((h'.set n (since + 1)).drewN m)
  obtain ⟨g0, g1, g2, g3⟩ := h4
  go_quiet (fail)
  by_cases hd : (since + 1) % ask = 0
  · have hd' : ((since + 1) % ask == 0) = true := by simp [hd]
    go_wp2
    go_ret
    exact ⟨by simp, (h'.set n _).drewN _, (((Ext.refl (fun k => k = b) w).drewN n).setCell (p := ⟨b, 2, none⟩) (.inl rfl) _).drewN _⟩
  · have hd' : ((since + 1) % ask == 0) = false := by simp [hd]
    go_wp2
    go_ret
    exact ⟨by simp, (h'.set n _).drewN _, (((Ext.refl (fun k => k = b) w).drewN n).setCell (p := ⟨b, 2, none⟩) (.inl rfl) _).drewN _⟩

set_option maxHeartbeats 400000 in
theorem tick_nil (w : World) :
    Calls Try.prog 9 #[.pointer none] w fun e w' => e = .returned (.int .i64 2) ∧ ∃ n, w' = w.drewN n := by
  go_enter Try.func9, Try.ntmps9
  go_wp2_with fail
  go_at_call 10
  refine (over_nil _).mono ?_
  rintro e w1 ⟨rfl, n, rfl⟩
  go_wp2_with fail
  go_at_call 10
  refine (over_nil _).mono ?_
  rintro e w1 ⟨rfl, m, rfl⟩
  go_wp2
  go_ret
  exact ⟨rfl, _, rfl⟩

/-- A tick. -/
theorem tick_any (b : Nat) (ask dead since : Int) (w : World) (h : Is w b ask dead since) (ha : 0 < ask) (hs : since ≤ dead) (h0s : 0 ≤ since) (hb : dead ≤ 100000) :
    Calls Try.prog 9 #[.pointer (some ⟨b, 0, none⟩)] w fun e w' => e = .returned (.int .i64 (how ask dead (step dead since))) ∧ Is w' b ask dead (step dead since) ∧ Ext (fun k => k = b) w w' := by
  have ha' : (ask == 0) = false := by simp; omega
  by_cases h1 : since = dead
  · subst h1
    refine (tick_over b ask since w h ha').mono ?_
    rintro e w' ⟨rfl, n, rfl⟩
    refine ⟨by simp [how, step], ?_, (Ext.refl _ w).drewN n⟩
    simp only [step, if_true]
    exact h.drewN n
  · by_cases h2 : since + 1 = dead
    · refine (tick_dead b ask dead since w h ha' h2 h0s (by omega)).mono ?_
      rintro e w' ⟨rfl, hi, hx⟩
      refine ⟨by simp [how, step, h1, h2], ?_, hx⟩
      simp only [step, if_neg h1, h2]
      exact hi
    · refine (tick_on b ask dead since w h ha (by omega) h0s hb).mono ?_
      rintro e w' ⟨rfl, hi, hx⟩
      refine ⟨by simp [how, step, h1, h2], ?_, hx⟩
      simp only [step, if_neg h1]
      exact hi

set_option maxHeartbeats 400000 in
theorem heard_on (b : Nat) (ask dead since : Int) (w : World) (h : Is w b ask dead since) (ha : (ask == 0) = false) (hs : (since == dead) = false) :
    Calls Try.prog 8 #[.pointer (some ⟨b, 0, none⟩)] w fun e w' => e = .returned (.tuple #[]) ∧ Is w' b ask dead 0 ∧ Ext (fun k => k = b) w w' := by
  have h' := h
  obtain ⟨h0, h1, h2, h3⟩ := h
  go_enter Try.func8, Try.ntmps8
  go_wp2_with fail
  go_at_call 10
  refine (over_some b ask dead since _ h' ha).mono ?_
  rintro e w1 ⟨rfl, n, rfl⟩
  go_wp2
  go_end0
  exact ⟨rfl, h'.set n 0, ((Ext.refl (fun k => k = b) w).drewN n).setCell (p := ⟨b, 2, none⟩) (.inl rfl) _⟩

set_option maxHeartbeats 400000 in
theorem heard_over (b : Nat) (ask dead : Int) (w : World) (h : Is w b ask dead dead) (ha : (ask == 0) = false) :
    Calls Try.prog 8 #[.pointer (some ⟨b, 0, none⟩)] w fun e w' => e = .returned (.tuple #[]) ∧ Is w' b ask dead dead ∧ Ext (fun k => k = b) w w' := by
  have h' := h
  obtain ⟨h0, h1, h2, h3⟩ := h
  go_enter Try.func8, Try.ntmps8
  go_wp2_with fail
  go_at_call 10
  refine (over_some b ask dead dead _ h' ha).mono ?_
  rintro e w1 ⟨rfl, n, rfl⟩
  go_wp2
  go_end0
  exact ⟨rfl, h'.drewN n, (Ext.refl (fun k => k = b) w).drewN n⟩

/-- A word. -/
theorem heard_any (b : Nat) (ask dead since : Int) (w : World) (h : Is w b ask dead since) (ha : 0 < ask) :
    Calls Try.prog 8 #[.pointer (some ⟨b, 0, none⟩)] w fun e w' => e = .returned (.tuple #[]) ∧ Is w' b ask dead (if since = dead then dead else 0) ∧ Ext (fun k => k = b) w w' := by
  have ha' : (ask == 0) = false := by simp; omega
  by_cases h1 : since = dead
  · subst h1
    simpa using heard_over b ask since w h ha'
  · simpa [h1] using heard_on b ask dead since w h ha' (by simpa using h1)

set_option maxHeartbeats 400000 in
theorem since_some (b : Nat) (ask dead since : Int) (w : World) (h : Is w b ask dead since) (ha : (ask == 0) = false) :
    Calls Try.prog 11 #[.pointer (some ⟨b, 0, none⟩)] w fun e w' => e = .returned (.int .i64 since) ∧ w' = w := by
  obtain ⟨h0, h1, h2, h3⟩ := h
  go_enter Try.func11, Try.ntmps11
  go_wp2_with fail
  go_at_call 15
  refine (none_some b ask _ h0 ha).mono ?_
  rintro e w1 ⟨rfl, rfl⟩
  go_wp2
  go_ret
  exact ⟨rfl, rfl⟩

set_option maxHeartbeats 400000 in
theorem since_nil (w : World) :
    Calls Try.prog 11 #[.pointer none] w fun e w' => e = .returned (.int .i64 0) ∧ w' = w := by
  go_enter Try.func11, Try.ntmps11
  go_wp2_with fail
  go_at_call 15
  refine (none_nil _).mono ?_
  rintro e w1 ⟨rfl, rfl⟩
  go_wp2
  go_ret
  exact ⟨rfl, rfl⟩
end Alive
end Go.Proofs.Ytaenaiffjpjioaa
