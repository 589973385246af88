/- Pair, and the document's. -/
import Derived.Test.YtfdgflpkdidooaaDoorMake
namespace Go.Proofs.YtfdgflpkdidooaaDoor
open Go.RowKit

set_option maxHeartbeats 1600000 in
set_option maxRecDepth 20000 in
theorem pair_eq (e0 : Int) (hb : -9223372036854775808 ≤ e0) (hb2 : e0 ≤ 9223372036854775807) (w : World) : Calls Tryd.prog 8 #[.int .i64 e0] w fun e w' => e = .returned (.tuple #[.int .i64 (prT e0), .int .i64 (prC e0), .bool (prOk e0)]) ∧ w' = w := by
  by_cases h1 : e0 < 1
  · have hn : ¬ (1 ≤ e0 ∧ (e0 - 1) % 256 < cod ((e0 - 1) / 256)) := by omega
    rw [show prT e0 = 0 by simp only [prT]; rw [if_neg hn], show prC e0 = 0 by simp only [prC]; rw [if_neg hn], show prOk e0 = false by simp only [prOk]; exact decide_eq_false hn]
    go_enter Tryd.func8, Tryd.ntmps8
    go_wp2
    refine bodyPost_ret ?_ rfl ⟨rfl, rfl⟩
    simp [results, Tryd.results8, go_sem]
  · obtain ⟨n, rfl⟩ : ∃ n : Nat, e0 = (n : Int) + 1 := ⟨(e0 - 1).toNat, by omega⟩
    have hn1 : (n : Int) ≤ 9223372036854775806 := by omega
    have hcl := cod_le ((n : Int) / 256)
    have hd : (n : Int).tdiv 256 = (n : Int) / 256 := Int.tdiv_eq_ediv_of_nonneg (by omega)
    have hm : (n : Int).tmod 256 = (n : Int) % 256 := Int.tmod_eq_emod_of_nonneg (by omega)
    by_cases hy : ((n : Int) % 256 < cod ((n : Int) / 256))
    · have hp : (1 ≤ (n : Int) + 1 ∧ ((n : Int) + 1 - 1) % 256 < cod (((n : Int) + 1 - 1) / 256)) := by
        rw [show (n : Int) + 1 - 1 = n by omega]; exact ⟨by omega, hy⟩
      rw [show prT ((n : Int) + 1) = (n : Int) / 256 by simp only [prT]; rw [if_pos hp]; congr 1; omega, show prC ((n : Int) + 1) = (n : Int) % 256 by simp only [prC]; rw [if_pos hp]; congr 1; omega, show prOk ((n : Int) + 1) = true by simp only [prOk]; exact decide_eq_true hp]
      have hd1 : 0 ≤ (n : Int) / 256 ∧ (n : Int) / 256 ≤ 9223372036854775807 := by omega
      have hm1 : 0 ≤ (n : Int) % 256 ∧ (n : Int) % 256 < 256 := by omega
      clear hp hcl hb hb2 h1
      generalize (n : Int) / 256 = q at *
      generalize (n : Int) % 256 = r at *
      obtain ⟨hd1, hd2⟩ := hd1
      obtain ⟨hm1, hm2⟩ := hm1
      go_enter Tryd.func8, Tryd.ntmps8
      go_wp2_with fail
      go_at_call 10
      refine (codes_eq _ w).mono ?_
      rintro e w1 ⟨rfl, rfl⟩
      go_wp2
      refine bodyPost_ret ?_ rfl ⟨rfl, rfl⟩
      simp [results, Tryd.results8, go_sem]
    · have hp : ¬ (1 ≤ (n : Int) + 1 ∧ ((n : Int) + 1 - 1) % 256 < cod (((n : Int) + 1 - 1) / 256)) := by
        rw [show (n : Int) + 1 - 1 = n by omega]; exact fun h => hy h.2
      rw [show prT ((n : Int) + 1) = 0 by simp only [prT]; rw [if_neg hp], show prC ((n : Int) + 1) = 0 by simp only [prC]; rw [if_neg hp], show prOk ((n : Int) + 1) = false by simp only [prOk]; exact decide_eq_false hp]
      have hd1 : 0 ≤ (n : Int) / 256 ∧ (n : Int) / 256 ≤ 9223372036854775807 := by omega
      have hm1 : 0 ≤ (n : Int) % 256 ∧ (n : Int) % 256 < 256 := by omega
      clear hp hcl hb hb2 h1
      generalize (n : Int) / 256 = q at *
      generalize (n : Int) % 256 = r at *
      obtain ⟨hd1, hd2⟩ := hd1
      obtain ⟨hm1, hm2⟩ := hm1
      go_enter Tryd.func8, Tryd.ntmps8
      go_wp2_with fail
      go_at_call 10
      refine (codes_eq _ w).mono ?_
      rintro e w1 ⟨rfl, rfl⟩
      go_wp2
      refine bodyPost_ret ?_ rfl ⟨rfl, rfl⟩
      simp [results, Tryd.results8, go_sem]
end Go.Proofs.YtfdgflpkdidooaaDoor
