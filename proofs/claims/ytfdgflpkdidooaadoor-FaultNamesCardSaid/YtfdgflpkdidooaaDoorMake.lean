/- Make and Pair, and the document's. -/
import Derived.Test.YtfdgflpkdidooaaDoorTypes
namespace Go.Proofs.YtfdgflpkdidooaaDoor
open Go.RowKit

/-- The error of a type and a code. -/
def mk (t code : Int) : Int := if 0 ≤ code ∧ code < cod t then 256 * t + code + 1 else 0
def mkOk (t code : Int) : Bool := decide (0 ≤ code ∧ code < cod t)
/-- The type and the code of an error. -/
def prOk (e : Int) : Bool := decide (1 ≤ e ∧ (e - 1) % 256 < cod ((e - 1) / 256))
def prT (e : Int) : Int := if 1 ≤ e ∧ (e - 1) % 256 < cod ((e - 1) / 256) then (e - 1) / 256 else 0
def prC (e : Int) : Int := if 1 ≤ e ∧ (e - 1) % 256 < cod ((e - 1) / 256) then (e - 1) % 256 else 0

set_option maxHeartbeats 1600000 in
theorem make_eq (t code : Int) (w : World) : Calls Tryd.prog 6 #[.int .i64 t, .int .i64 code] w fun e w' => e = .returned (.tuple #[.int .i64 (mk t code), .bool (mkOk t code)]) ∧ w' = w := by
  have hcl := cod_le t
  by_cases h0 : code < 0
  · have hn : ¬ (0 ≤ code ∧ code < cod t) := by omega
    rw [show mk t code = 0 by simp only [mk]; rw [if_neg hn], show mkOk t code = false by simp only [mkOk]; exact decide_eq_false hn]
    go_enter Tryd.func6, Tryd.ntmps6
    go_wp2
    go_ret2
    exact ⟨rfl, rfl⟩
  · by_cases h1 : code < cod t
    · have hy : (0 ≤ code ∧ code < cod t) := by omega
      have hb := cod_in (t := t) (by omega)
      rw [show mk t code = 256 * t + code + 1 by simp only [mk]; rw [if_pos hy], show mkOk t code = true by simp only [mkOk]; exact decide_eq_true hy]
      go_enter Tryd.func6, Tryd.ntmps6
      go_wp2_with fail
      go_at_call 10
      refine (codes_eq t w).mono ?_
      rintro e w1 ⟨rfl, rfl⟩
      go_wp2
      go_ret2
      exact ⟨rfl, rfl⟩
    · have hn : ¬ (0 ≤ code ∧ code < cod t) := by omega
      rw [show mk t code = 0 by simp only [mk]; rw [if_neg hn], show mkOk t code = false by simp only [mkOk]; exact decide_eq_false hn]
      go_enter Tryd.func6, Tryd.ntmps6
      go_wp2_with fail
      go_at_call 10
      refine (codes_eq t w).mono ?_
      rintro e w1 ⟨rfl, rfl⟩
      go_wp2
      go_ret2
      exact ⟨rfl, rfl⟩

set_option maxHeartbeats 1600000 in
theorem refMake_eq (t code : Int) (w : World) : Calls Tryd.prog 7 #[.int .i64 t, .int .i64 code] w fun e w' => e = .returned (.tuple #[.int .i64 (mk t code), .bool (mkOk t code)]) ∧ Grew w w' := by
  have hcl := cod_le t
  by_cases h0 : code < 0
  · have hn : ¬ (0 ≤ code ∧ code < cod t) := by omega
    rw [show mk t code = 0 by simp only [mk]; rw [if_neg hn], show mkOk t code = false by simp only [mkOk]; exact decide_eq_false hn]
    go_enter Tryd.func7, Tryd.ntmps7
    go_wp2
    go_ret2
    exact ⟨rfl, Ext.refl _ _⟩
  · by_cases h1 : code < cod t
    · have hy : (0 ≤ code ∧ code < cod t) := by omega
      have hb := cod_in (t := t) (by omega)
      rw [show mk t code = 256 * t + code + 1 by simp only [mk]; rw [if_pos hy], show mkOk t code = true by simp only [mkOk]; exact decide_eq_true hy]
      go_enter Tryd.func7, Tryd.ntmps7
      go_wp2_with fail
      go_at_call 11
      refine (refCodes_eq t w).mono ?_
      rintro e w1 ⟨rfl, hX⟩
      go_wp2
      go_ret2
      exact ⟨rfl, hX⟩
    · have hn : ¬ (0 ≤ code ∧ code < cod t) := by omega
      rw [show mk t code = 0 by simp only [mk]; rw [if_neg hn], show mkOk t code = false by simp only [mkOk]; exact decide_eq_false hn]
      go_enter Tryd.func7, Tryd.ntmps7
      go_wp2_with fail
      go_at_call 11
      refine (refCodes_eq t w).mono ?_
      rintro e w1 ⟨rfl, hX⟩
      go_wp2
      go_ret2
      exact ⟨rfl, hX⟩
end Go.Proofs.YtfdgflpkdidooaaDoor
