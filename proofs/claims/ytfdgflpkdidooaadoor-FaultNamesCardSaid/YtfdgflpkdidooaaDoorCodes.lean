/- Codes, Make and Pair: what they compute. -/
import Derived.Test.YtfdgflpkdidooaaDoorExt
namespace Go.Proofs.YtfdgflpkdidooaaDoor
open Go.RowKit

/-- How many codes a type has. -/
def cod (t : Int) : Int := if t = 0 then 2 else if t = 1 then 14 else if t = 2 then 16 else if t = 3 then 10 else if t = 4 then 12 else if t = 5 then 8 else if t = 6 then 15 else if t = 7 then 5 else if t = 8 then 3 else if t = 9 then 3 else if t = 10 then 3 else if t = 11 then 3 else if t = 12 then 12 else if t = 13 then 6 else 0
theorem cod_le (t : Int) : 0 ≤ cod t ∧ cod t ≤ 16 := by
  unfold cod
  repeat' split
  all_goals omega
theorem cod_in {t : Int} (h : cod t ≠ 0) : 0 ≤ t ∧ t ≤ 13 := by
  unfold cod at h
  repeat' split at h
  all_goals omega

set_option maxHeartbeats 1600000 in
theorem codes_eq (t : Int) (w : World) : Calls Tryd.prog 10 #[.int .i64 t] w fun e w' => e = .returned (.int .i64 (cod t)) ∧ w' = w := by
  by_cases ht : 0 ≤ t ∧ t ≤ 13
  · have : t = 0 ∨ t = 1 ∨ t = 2 ∨ t = 3 ∨ t = 4 ∨ t = 5 ∨ t = 6 ∨ t = 7 ∨ t = 8 ∨ t = 9 ∨ t = 10 ∨ t = 11 ∨ t = 12 ∨ t = 13 := by omega
    rcases this with rfl | rfl | rfl | rfl | rfl | rfl | rfl | rfl | rfl | rfl | rfl | rfl | rfl | rfl
    all_goals
      go_enter Tryd.func10, Tryd.ntmps10
      go_wp2
      go_ret
      exact ⟨rfl, rfl⟩
  · have hz : cod t = 0 := by
      apply Decidable.byContradiction
      intro h
      exact ht (cod_in h)
    have h0 : (t == 0) = false := by simp; omega
    have h1 : (t == 1) = false := by simp; omega
    have h2 : (t == 2) = false := by simp; omega
    have h3 : (t == 3) = false := by simp; omega
    have h4 : (t == 4) = false := by simp; omega
    have h5 : (t == 5) = false := by simp; omega
    have h6 : (t == 6) = false := by simp; omega
    have h7 : (t == 7) = false := by simp; omega
    have h8 : (t == 8) = false := by simp; omega
    have h9 : (t == 9) = false := by simp; omega
    have h10 : (t == 10) = false := by simp; omega
    have h11 : (t == 11) = false := by simp; omega
    have h12 : (t == 12) = false := by simp; omega
    have h13 : (t == 13) = false := by simp; omega
    rw [hz]
    go_enter Tryd.func10, Tryd.ntmps10
    go_wp2
    go_ret
    exact ⟨rfl, rfl⟩
end Go.Proofs.YtfdgflpkdidooaaDoor
