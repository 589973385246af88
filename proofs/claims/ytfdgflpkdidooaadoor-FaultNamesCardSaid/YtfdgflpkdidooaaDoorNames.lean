/- The types' names; whether an error is the program's own. -/
import Derived.Test.YtfdgflpkdidooaaDoorMake
namespace Go.Proofs.YtfdgflpkdidooaaDoor
open Go.RowKit

def namesV : Array Value := #[.string ⟨#[104, 101, 108, 108, 111]⟩, .string ⟨#[114, 101, 113, 117, 101, 115, 116]⟩, .string ⟨#[97, 99, 116, 105, 111, 110]⟩, .string ⟨#[105, 110, 115, 116, 114, 117, 99, 116, 105, 111, 110]⟩, .string ⟨#[109, 97, 116, 99, 104]⟩, .string ⟨#[102, 108, 111, 119]⟩, .string ⟨#[103, 114, 111, 117, 112]⟩, .string ⟨#[112, 111, 114, 116]⟩, .string ⟨#[116, 97, 98, 108, 101]⟩, .string ⟨#[113, 117, 101, 117, 101]⟩, .string ⟨#[99, 111, 110, 102, 105, 103]⟩, .string ⟨#[114, 111, 108, 101]⟩, .string ⟨#[109, 101, 116, 101, 114]⟩, .string ⟨#[102, 101, 97, 116, 117, 114, 101, 115]⟩]

set_option maxHeartbeats 1600000 in
theorem names_eq (w : World) : Calls Tryd.prog 20 #[] w fun e w' => e = .returned (.agg namesV) ∧ Grew w w' := by
  go_enter Tryd.func20, Tryd.ntmps20
  go_wp2
  refine bodyPost_ret ?_ rfl ⟨rfl, (Ext.refl _ w).alloc _⟩
  simp [results, Tryd.results20, go_sem, namesV]

set_option maxHeartbeats 1600000 in
theorem ours_eq (e0 : Int) (w : World) : Calls Tryd.prog 24 #[.int .i64 e0] w fun e w' => e = .returned (.bool (decide (10001 ≤ e0 ∧ e0 ≤ 10008) || decide (e0 = 10337))) ∧ w' = w := by
  by_cases h1 : 10001 ≤ e0
  · by_cases h2 : e0 ≤ 10008
    · go_enter Tryd.func24, Tryd.ntmps24
      go_wp2
      go_ret
      exact ⟨by simp [h1, h2], rfl⟩
    · by_cases h3 : e0 = 10337
      · subst h3
        go_enter Tryd.func24, Tryd.ntmps24
        go_wp2
        go_ret
        exact ⟨by simp, rfl⟩
      · have hb : (e0 == 10337) = false := by simp [h3]
        go_enter Tryd.func24, Tryd.ntmps24
        go_wp2
        go_ret
        exact ⟨by simp [h2], rfl⟩
  · have h3 : ¬ e0 = 10337 := by omega
    have hb : (e0 == 10337) = false := by simp [h3]
    go_enter Tryd.func24, Tryd.ntmps24
    go_wp2
    go_ret
    exact ⟨by simp; omega, rfl⟩
end Go.Proofs.YtfdgflpkdidooaaDoor
