/- The document's digits; all errors that have a name. -/
import Derived.Test.YtfdgflpkdidooaaDoorNameAll
import Derived.Maps.AppendAt
namespace Go.Proofs.YtfdgflpkdidooaaDoor
open Go.RowKit

theorem digits_ten (n : Nat) (h : n < 10) (w : World) : Calls Tryd.prog 25 #[.int .i64 (n : Int)] w fun e w' => e = .returned (.string ⟨(Lib.decDigits n).toArray⟩) ∧ w' = w := by
  have e1 : Lib.decDigits n = [UInt8.ofNat (48 + n)] := by rw [Lib.decDigits, dif_pos h]
  rw [e1]
  have : n = 0 ∨ n = 1 ∨ n = 2 ∨ n = 3 ∨ n = 4 ∨ n = 5 ∨ n = 6 ∨ n = 7 ∨ n = 8 ∨ n = 9 := by omega
  clear e1 h
  rcases this with rfl | rfl | rfl | rfl | rfl | rfl | rfl | rfl | rfl | rfl
  all_goals
    go_enter Tryd.func25, Tryd.ntmps25
    go_wp2
    go_ret
    exact ⟨rfl, rfl⟩

theorem decDigits_len (n : Nat) (h : n ≤ 1000) : (Lib.decDigits n).length ≤ 4 := by
  by_cases h1 : n < 10
  · rw [Lib.decDigits, dif_pos h1]; simp
  · rw [Lib.decDigits, dif_neg h1]
    by_cases h2 : n / 10 < 10
    · rw [Lib.decDigits, dif_pos h2]; simp
    · rw [Lib.decDigits, dif_neg h2]
      by_cases h3 : n / 10 / 10 < 10
      · rw [Lib.decDigits, dif_pos h3]; simp
      · rw [Lib.decDigits, dif_neg h3, Lib.decDigits, dif_pos (by omega)]; simp

set_option maxHeartbeats 1600000 in
set_option maxRecDepth 20000 in
theorem digits_eq : ∀ (n : Nat), n ≤ 1000 → ∀ w : World, Calls Tryd.prog 25 #[.int .i64 (n : Int)] w fun e w' => e = .returned (.string ⟨(Lib.decDigits n).toArray⟩) ∧ w' = w := by
  intro n
  induction n using Nat.strongRecOn with
  | _ n ih =>
    intro hn w
    by_cases h : n < 10
    · exact digits_ten n h w
    · have i1 := fun w => ih (n / 10) (by omega) (by omega) w
      have i2 := fun w => digits_ten (n % 10) (by omega) w
      have hq : (n : Int).tdiv 10 = ((n / 10 : Nat) : Int) := by rw [Int.tdiv_eq_ediv_of_nonneg (by omega)]; omega
      have hr : (n : Int).tmod 10 = ((n % 10 : Nat) : Int) := by rw [Int.tmod_eq_emod_of_nonneg (by omega)]; omega
      have e1 : Lib.decDigits n = Lib.decDigits (n / 10) ++ Lib.decDigits (n % 10) := by
        rw [Lib.decDigits, dif_neg h, show Lib.decDigits (n % 10) = [UInt8.ofNat (48 + n % 10)] by rw [Lib.decDigits, dif_pos (by omega)]]
      have l1 := decDigits_len (n / 10) (by omega)
      have l2 := decDigits_len (n % 10) (by omega)
      rw [e1]
      have z1 : ∀ w : World, (Op.stringOp .add (⟨(Lib.decDigits (n / 10)).toArray⟩ : ByteArray) ⟨(Lib.decDigits (n % 10)).toArray⟩).run Tryd.prog w = .ok (.string ⟨(Lib.decDigits (n / 10) ++ Lib.decDigits (n % 10)).toArray⟩) w := fun w => run_string_add_lists w _ _ (by omega) (by omega)
      have hx1 : (10 : Int) ≤ (n : Int) := by omega
      have hx2 : (n : Int) ≤ 1000 := by omega
      have hq2 : ((n / 10 : Nat) : Int) ≤ 100 := by omega
      clear e1 ih hn h
      generalize Lib.decDigits (n / 10) = a at *
      generalize Lib.decDigits (n % 10) = b at *
      generalize n / 10 = q at *
      generalize n % 10 = r at *
      generalize (n : Int) = x at *
      go_enter Tryd.func25, Tryd.ntmps25
      go_wp2_with fail
      go_at_call 25
      refine (i1 w).mono ?_
      rintro e w1 ⟨rfl, rfl⟩
      clear i1
      go_wp2_with fail
      go_at_call 25
      refine (i2 w1).mono ?_
      rintro e w2 ⟨rfl, rfl⟩
      go_wp2
      go_ret
      exact ⟨by simp, rfl⟩
end Go.Proofs.YtfdgflpkdidooaaDoor
