/- The document's types and codes. -/
import Derived.Test.YtfdgflpkdidooaaDoorCodes
namespace Go.Proofs.YtfdgflpkdidooaaDoor
open Go.RowKit

def typeCells : Array Value := #[.string ⟨#[104, 101, 108, 108, 111]⟩, .int .i64 2, .string ⟨#[114, 101, 113, 117, 101, 115, 116]⟩, .int .i64 14, .string ⟨#[97, 99, 116, 105, 111, 110]⟩, .int .i64 16, .string ⟨#[105, 110, 115, 116, 114, 117, 99, 116, 105, 111, 110]⟩, .int .i64 10, .string ⟨#[109, 97, 116, 99, 104]⟩, .int .i64 12, .string ⟨#[102, 108, 111, 119]⟩, .int .i64 8, .string ⟨#[103, 114, 111, 117, 112]⟩, .int .i64 15, .string ⟨#[112, 111, 114, 116]⟩, .int .i64 5, .string ⟨#[116, 97, 98, 108, 101]⟩, .int .i64 3, .string ⟨#[113, 117, 101, 117, 101]⟩, .int .i64 3, .string ⟨#[99, 111, 110, 102, 105, 103]⟩, .int .i64 3, .string ⟨#[114, 111, 108, 101]⟩, .int .i64 3, .string ⟨#[109, 101, 116, 101, 114]⟩, .int .i64 12, .string ⟨#[102, 101, 97, 116, 117, 114, 101, 115]⟩, .int .i64 6]

set_option maxHeartbeats 1600000 in
theorem types_eq (w : World) : Calls Tryd.prog 17 #[] w fun e w' => e = .returned (.slice (some ⟨w.heap.size, 0, none⟩) 14 14) ∧ w' = w.alloc (.cells typeCells 42) := by
  go_enter Tryd.func17, Tryd.ntmps17
  go_wp2
  go_ret
  exact ⟨rfl, rfl⟩

theorem type_codes (t : Nat) (ht : t < 14) : typeCells[t * 2 + 1]? = some (.int .i64 (cod t)) := by
  have : t = 0 ∨ t = 1 ∨ t = 2 ∨ t = 3 ∨ t = 4 ∨ t = 5 ∨ t = 6 ∨ t = 7 ∨ t = 8 ∨ t = 9 ∨ t = 10 ∨ t = 11 ∨ t = 12 ∨ t = 13 := by omega
  rcases this with rfl | rfl | rfl | rfl | rfl | rfl | rfl | rfl | rfl | rfl | rfl | rfl | rfl | rfl <;> rfl

set_option maxHeartbeats 1600000 in
theorem refCodes_eq (t : Int) (w : World) : Calls Tryd.prog 11 #[.int .i64 t] w fun e w' => e = .returned (.int .i64 (cod t)) ∧ Grew w w' := by
  by_cases h0 : t < 0
  · have hz : cod t = 0 := Decidable.byContradiction fun h => by have := cod_in h; omega
    rw [hz]
    go_enter Tryd.func11, Tryd.ntmps11
    go_wp2_with fail
    go_at_call 17
    refine (types_eq w).mono ?_
    rintro e w1 ⟨rfl, hw1⟩
    have hX : Grew w w1 := by rw [hw1]; exact (Ext.refl _ w).alloc _
    clear hw1
    go_wp2
    go_ret
    exact ⟨rfl, hX⟩
  · by_cases h14 : t < 14
    · obtain ⟨n, rfl⟩ : ∃ n : Nat, t = (n : Int) := ⟨t.toNat, by omega⟩
      go_enter Tryd.func11, Tryd.ntmps11
      go_wp2_with fail
      go_at_call 17
      refine (types_eq w).mono ?_
      rintro e w1 ⟨rfl, hw1⟩
      have hX : Grew w w1 := by rw [hw1]; exact (Ext.refl _ w).alloc _
      have hc : w1.cell? ⟨w.heap.size, n * 2 + 1, none⟩ = some (.int .i64 (cod n)) := by
        rw [hw1, World.cell?_alloc_at _ _ _ _ rfl]
        exact type_codes n (by omega)
      clear hw1
      go_wp2
      go_ret
      exact ⟨rfl, hX⟩
    · have hz : cod t = 0 := Decidable.byContradiction fun h => by have := cod_in h; omega
      rw [hz]
      go_enter Tryd.func11, Tryd.ntmps11
      go_wp2_with fail
      go_at_call 17
      refine (types_eq w).mono ?_
      rintro e w1 ⟨rfl, hw1⟩
      have hX : Grew w w1 := by rw [hw1]; exact (Ext.refl _ w).alloc _
      clear hw1
      go_wp2
      go_ret
      exact ⟨rfl, hX⟩
end Go.Proofs.YtfdgflpkdidooaaDoor
