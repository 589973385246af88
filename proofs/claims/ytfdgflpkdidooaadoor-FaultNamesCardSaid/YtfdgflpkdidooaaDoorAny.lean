/- Name at every error. -/
import Derived.Test.YtfdgflpkdidooaaDoorSure
namespace Go.Proofs.YtfdgflpkdidooaaDoor
open Go.RowKit

def namesL : List (List UInt8) := [[104, 101, 108, 108, 111], [114, 101, 113, 117, 101, 115, 116], [97, 99, 116, 105, 111, 110], [105, 110, 115, 116, 114, 117, 99, 116, 105, 111, 110], [109, 97, 116, 99, 104], [102, 108, 111, 119], [103, 114, 111, 117, 112], [112, 111, 114, 116], [116, 97, 98, 108, 101], [113, 117, 101, 117, 101], [99, 111, 110, 102, 105, 103], [114, 111, 108, 101], [109, 101, 116, 101, 114], [102, 101, 97, 116, 117, 114, 101, 115]]
/-- A type's name. -/
def nameL (t : Nat) : List UInt8 := namesL.getD t []
/-- A number below 16 as text. -/
def dig (c : Nat) : List UInt8 := if c < 10 then [UInt8.ofNat (48 + c)] else [49, UInt8.ofNat (38 + c)]
theorem dig_eq (c : Nat) (h : c < 16) : Lib.decDigits c = dig c := by
  by_cases h10 : c < 10
  · rw [Lib.decDigits, dif_pos h10, dig, if_pos h10]
  · have h1 : c / 10 = 1 := by omega
    have h2 : 48 + c % 10 = 38 + c := by omega
    rw [Lib.decDigits, dif_neg h10, h1, h2, Lib.decDigits, dif_pos (by decide), dig, if_neg h10]
    rfl

theorem name_at0 : ∀ w : World, (Instr.index 49 (.agg #[.string ⟨#[104, 101, 108, 108, 111]⟩, .string ⟨#[114, 101, 113, 117, 101, 115, 116]⟩, .string ⟨#[97, 99, 116, 105, 111, 110]⟩, .string ⟨#[105, 110, 115, 116, 114, 117, 99, 116, 105, 111, 110]⟩, .string ⟨#[109, 97, 116, 99, 104]⟩, .string ⟨#[102, 108, 111, 119]⟩, .string ⟨#[103, 114, 111, 117, 112]⟩, .string ⟨#[112, 111, 114, 116]⟩, .string ⟨#[116, 97, 98, 108, 101]⟩, .string ⟨#[113, 117, 101, 117, 101]⟩, .string ⟨#[99, 111, 110, 102, 105, 103]⟩, .string ⟨#[114, 111, 108, 101]⟩, .string ⟨#[109, 101, 116, 101, 114]⟩, .string ⟨#[102, 101, 97, 116, 117, 114, 101, 115]⟩]) (.int .i64 0)).run Tryd.prog w = .ok (.string ⟨#[104, 101, 108, 108, 111]⟩) w := fun _ => by kernel_rfl
theorem name_at1 : ∀ w : World, (Instr.index 49 (.agg #[.string ⟨#[104, 101, 108, 108, 111]⟩, .string ⟨#[114, 101, 113, 117, 101, 115, 116]⟩, .string ⟨#[97, 99, 116, 105, 111, 110]⟩, .string ⟨#[105, 110, 115, 116, 114, 117, 99, 116, 105, 111, 110]⟩, .string ⟨#[109, 97, 116, 99, 104]⟩, .string ⟨#[102, 108, 111, 119]⟩, .string ⟨#[103, 114, 111, 117, 112]⟩, .string ⟨#[112, 111, 114, 116]⟩, .string ⟨#[116, 97, 98, 108, 101]⟩, .string ⟨#[113, 117, 101, 117, 101]⟩, .string ⟨#[99, 111, 110, 102, 105, 103]⟩, .string ⟨#[114, 111, 108, 101]⟩, .string ⟨#[109, 101, 116, 101, 114]⟩, .string ⟨#[102, 101, 97, 116, 117, 114, 101, 115]⟩]) (.int .i64 1)).run Tryd.prog w = .ok (.string ⟨#[114, 101, 113, 117, 101, 115, 116]⟩) w := fun _ => by kernel_rfl
theorem name_at2 : ∀ w : World, (Instr.index 49 (.agg #[.string ⟨#[104, 101, 108, 108, 111]⟩, .string ⟨#[114, 101, 113, 117, 101, 115, 116]⟩, .string ⟨#[97, 99, 116, 105, 111, 110]⟩, .string ⟨#[105, 110, 115, 116, 114, 117, 99, 116, 105, 111, 110]⟩, .string ⟨#[109, 97, 116, 99, 104]⟩, .string ⟨#[102, 108, 111, 119]⟩, .string ⟨#[103, 114, 111, 117, 112]⟩, .string ⟨#[112, 111, 114, 116]⟩, .string ⟨#[116, 97, 98, 108, 101]⟩, .string ⟨#[113, 117, 101, 117, 101]⟩, .string ⟨#[99, 111, 110, 102, 105, 103]⟩, .string ⟨#[114, 111, 108, 101]⟩, .string ⟨#[109, 101, 116, 101, 114]⟩, .string ⟨#[102, 101, 97, 116, 117, 114, 101, 115]⟩]) (.int .i64 2)).run Tryd.prog w = .ok (.string ⟨#[97, 99, 116, 105, 111, 110]⟩) w := fun _ => by kernel_rfl
theorem name_at3 : ∀ w : World, (Instr.index 49 (.agg #[.string ⟨#[104, 101, 108, 108, 111]⟩, .string ⟨#[114, 101, 113, 117, 101, 115, 116]⟩, .string ⟨#[97, 99, 116, 105, 111, 110]⟩, .string ⟨#[105, 110, 115, 116, 114, 117, 99, 116, 105, 111, 110]⟩, .string ⟨#[109, 97, 116, 99, 104]⟩, .string ⟨#[102, 108, 111, 119]⟩, .string ⟨#[103, 114, 111, 117, 112]⟩, .string ⟨#[112, 111, 114, 116]⟩, .string ⟨#[116, 97, 98, 108, 101]⟩, .string ⟨#[113, 117, 101, 117, 101]⟩, .string ⟨#[99, 111, 110, 102, 105, 103]⟩, .string ⟨#[114, 111, 108, 101]⟩, .string ⟨#[109, 101, 116, 101, 114]⟩, .string ⟨#[102, 101, 97, 116, 117, 114, 101, 115]⟩]) (.int .i64 3)).run Tryd.prog w = .ok (.string ⟨#[105, 110, 115, 116, 114, 117, 99, 116, 105, 111, 110]⟩) w := fun _ => by kernel_rfl
theorem name_at4 : ∀ w : World, (Instr.index 49 (.agg #[.string ⟨#[104, 101, 108, 108, 111]⟩, .string ⟨#[114, 101, 113, 117, 101, 115, 116]⟩, .string ⟨#[97, 99, 116, 105, 111, 110]⟩, .string ⟨#[105, 110, 115, 116, 114, 117, 99, 116, 105, 111, 110]⟩, .string ⟨#[109, 97, 116, 99, 104]⟩, .string ⟨#[102, 108, 111, 119]⟩, .string ⟨#[103, 114, 111, 117, 112]⟩, .string ⟨#[112, 111, 114, 116]⟩, .string ⟨#[116, 97, 98, 108, 101]⟩, .string ⟨#[113, 117, 101, 117, 101]⟩, .string ⟨#[99, 111, 110, 102, 105, 103]⟩, .string ⟨#[114, 111, 108, 101]⟩, .string ⟨#[109, 101, 116, 101, 114]⟩, .string ⟨#[102, 101, 97, 116, 117, 114, 101, 115]⟩]) (.int .i64 4)).run Tryd.prog w = .ok (.string ⟨#[109, 97, 116, 99, 104]⟩) w := fun _ => by kernel_rfl
theorem name_at5 : ∀ w : World, (Instr.index 49 (.agg #[.string ⟨#[104, 101, 108, 108, 111]⟩, .string ⟨#[114, 101, 113, 117, 101, 115, 116]⟩, .string ⟨#[97, 99, 116, 105, 111, 110]⟩, .string ⟨#[105, 110, 115, 116, 114, 117, 99, 116, 105, 111, 110]⟩, .string ⟨#[109, 97, 116, 99, 104]⟩, .string ⟨#[102, 108, 111, 119]⟩, .string ⟨#[103, 114, 111, 117, 112]⟩, .string ⟨#[112, 111, 114, 116]⟩, .string ⟨#[116, 97, 98, 108, 101]⟩, .string ⟨#[113, 117, 101, 117, 101]⟩, .string ⟨#[99, 111, 110, 102, 105, 103]⟩, .string ⟨#[114, 111, 108, 101]⟩, .string ⟨#[109, 101, 116, 101, 114]⟩, .string ⟨#[102, 101, 97, 116, 117, 114, 101, 115]⟩]) (.int .i64 5)).run Tryd.prog w = .ok (.string ⟨#[102, 108, 111, 119]⟩) w := fun _ => by kernel_rfl
theorem name_at6 : ∀ w : World, (Instr.index 49 (.agg #[.string ⟨#[104, 101, 108, 108, 111]⟩, .string ⟨#[114, 101, 113, 117, 101, 115, 116]⟩, .string ⟨#[97, 99, 116, 105, 111, 110]⟩, .string ⟨#[105, 110, 115, 116, 114, 117, 99, 116, 105, 111, 110]⟩, .string ⟨#[109, 97, 116, 99, 104]⟩, .string ⟨#[102, 108, 111, 119]⟩, .string ⟨#[103, 114, 111, 117, 112]⟩, .string ⟨#[112, 111, 114, 116]⟩, .string ⟨#[116, 97, 98, 108, 101]⟩, .string ⟨#[113, 117, 101, 117, 101]⟩, .string ⟨#[99, 111, 110, 102, 105, 103]⟩, .string ⟨#[114, 111, 108, 101]⟩, .string ⟨#[109, 101, 116, 101, 114]⟩, .string ⟨#[102, 101, 97, 116, 117, 114, 101, 115]⟩]) (.int .i64 6)).run Tryd.prog w = .ok (.string ⟨#[103, 114, 111, 117, 112]⟩) w := fun _ => by kernel_rfl
theorem name_at7 : ∀ w : World, (Instr.index 49 (.agg #[.string ⟨#[104, 101, 108, 108, 111]⟩, .string ⟨#[114, 101, 113, 117, 101, 115, 116]⟩, .string ⟨#[97, 99, 116, 105, 111, 110]⟩, .string ⟨#[105, 110, 115, 116, 114, 117, 99, 116, 105, 111, 110]⟩, .string ⟨#[109, 97, 116, 99, 104]⟩, .string ⟨#[102, 108, 111, 119]⟩, .string ⟨#[103, 114, 111, 117, 112]⟩, .string ⟨#[112, 111, 114, 116]⟩, .string ⟨#[116, 97, 98, 108, 101]⟩, .string ⟨#[113, 117, 101, 117, 101]⟩, .string ⟨#[99, 111, 110, 102, 105, 103]⟩, .string ⟨#[114, 111, 108, 101]⟩, .string ⟨#[109, 101, 116, 101, 114]⟩, .string ⟨#[102, 101, 97, 116, 117, 114, 101, 115]⟩]) (.int .i64 7)).run Tryd.prog w = .ok (.string ⟨#[112, 111, 114, 116]⟩) w := fun _ => by kernel_rfl
theorem name_at8 : ∀ w : World, (Instr.index 49 (.agg #[.string ⟨#[104, 101, 108, 108, 111]⟩, .string ⟨#[114, 101, 113, 117, 101, 115, 116]⟩, .string ⟨#[97, 99, 116, 105, 111, 110]⟩, .string ⟨#[105, 110, 115, 116, 114, 117, 99, 116, 105, 111, 110]⟩, .string ⟨#[109, 97, 116, 99, 104]⟩, .string ⟨#[102, 108, 111, 119]⟩, .string ⟨#[103, 114, 111, 117, 112]⟩, .string ⟨#[112, 111, 114, 116]⟩, .string ⟨#[116, 97, 98, 108, 101]⟩, .string ⟨#[113, 117, 101, 117, 101]⟩, .string ⟨#[99, 111, 110, 102, 105, 103]⟩, .string ⟨#[114, 111, 108, 101]⟩, .string ⟨#[109, 101, 116, 101, 114]⟩, .string ⟨#[102, 101, 97, 116, 117, 114, 101, 115]⟩]) (.int .i64 8)).run Tryd.prog w = .ok (.string ⟨#[116, 97, 98, 108, 101]⟩) w := fun _ => by kernel_rfl
theorem name_at9 : ∀ w : World, (Instr.index 49 (.agg #[.string ⟨#[104, 101, 108, 108, 111]⟩, .string ⟨#[114, 101, 113, 117, 101, 115, 116]⟩, .string ⟨#[97, 99, 116, 105, 111, 110]⟩, .string ⟨#[105, 110, 115, 116, 114, 117, 99, 116, 105, 111, 110]⟩, .string ⟨#[109, 97, 116, 99, 104]⟩, .string ⟨#[102, 108, 111, 119]⟩, .string ⟨#[103, 114, 111, 117, 112]⟩, .string ⟨#[112, 111, 114, 116]⟩, .string ⟨#[116, 97, 98, 108, 101]⟩, .string ⟨#[113, 117, 101, 117, 101]⟩, .string ⟨#[99, 111, 110, 102, 105, 103]⟩, .string ⟨#[114, 111, 108, 101]⟩, .string ⟨#[109, 101, 116, 101, 114]⟩, .string ⟨#[102, 101, 97, 116, 117, 114, 101, 115]⟩]) (.int .i64 9)).run Tryd.prog w = .ok (.string ⟨#[113, 117, 101, 117, 101]⟩) w := fun _ => by kernel_rfl
theorem name_at10 : ∀ w : World, (Instr.index 49 (.agg #[.string ⟨#[104, 101, 108, 108, 111]⟩, .string ⟨#[114, 101, 113, 117, 101, 115, 116]⟩, .string ⟨#[97, 99, 116, 105, 111, 110]⟩, .string ⟨#[105, 110, 115, 116, 114, 117, 99, 116, 105, 111, 110]⟩, .string ⟨#[109, 97, 116, 99, 104]⟩, .string ⟨#[102, 108, 111, 119]⟩, .string ⟨#[103, 114, 111, 117, 112]⟩, .string ⟨#[112, 111, 114, 116]⟩, .string ⟨#[116, 97, 98, 108, 101]⟩, .string ⟨#[113, 117, 101, 117, 101]⟩, .string ⟨#[99, 111, 110, 102, 105, 103]⟩, .string ⟨#[114, 111, 108, 101]⟩, .string ⟨#[109, 101, 116, 101, 114]⟩, .string ⟨#[102, 101, 97, 116, 117, 114, 101, 115]⟩]) (.int .i64 10)).run Tryd.prog w = .ok (.string ⟨#[99, 111, 110, 102, 105, 103]⟩) w := fun _ => by kernel_rfl
theorem name_at11 : ∀ w : World, (Instr.index 49 (.agg #[.string ⟨#[104, 101, 108, 108, 111]⟩, .string ⟨#[114, 101, 113, 117, 101, 115, 116]⟩, .string ⟨#[97, 99, 116, 105, 111, 110]⟩, .string ⟨#[105, 110, 115, 116, 114, 117, 99, 116, 105, 111, 110]⟩, .string ⟨#[109, 97, 116, 99, 104]⟩, .string ⟨#[102, 108, 111, 119]⟩, .string ⟨#[103, 114, 111, 117, 112]⟩, .string ⟨#[112, 111, 114, 116]⟩, .string ⟨#[116, 97, 98, 108, 101]⟩, .string ⟨#[113, 117, 101, 117, 101]⟩, .string ⟨#[99, 111, 110, 102, 105, 103]⟩, .string ⟨#[114, 111, 108, 101]⟩, .string ⟨#[109, 101, 116, 101, 114]⟩, .string ⟨#[102, 101, 97, 116, 117, 114, 101, 115]⟩]) (.int .i64 11)).run Tryd.prog w = .ok (.string ⟨#[114, 111, 108, 101]⟩) w := fun _ => by kernel_rfl
theorem name_at12 : ∀ w : World, (Instr.index 49 (.agg #[.string ⟨#[104, 101, 108, 108, 111]⟩, .string ⟨#[114, 101, 113, 117, 101, 115, 116]⟩, .string ⟨#[97, 99, 116, 105, 111, 110]⟩, .string ⟨#[105, 110, 115, 116, 114, 117, 99, 116, 105, 111, 110]⟩, .string ⟨#[109, 97, 116, 99, 104]⟩, .string ⟨#[102, 108, 111, 119]⟩, .string ⟨#[103, 114, 111, 117, 112]⟩, .string ⟨#[112, 111, 114, 116]⟩, .string ⟨#[116, 97, 98, 108, 101]⟩, .string ⟨#[113, 117, 101, 117, 101]⟩, .string ⟨#[99, 111, 110, 102, 105, 103]⟩, .string ⟨#[114, 111, 108, 101]⟩, .string ⟨#[109, 101, 116, 101, 114]⟩, .string ⟨#[102, 101, 97, 116, 117, 114, 101, 115]⟩]) (.int .i64 12)).run Tryd.prog w = .ok (.string ⟨#[109, 101, 116, 101, 114]⟩) w := fun _ => by kernel_rfl
theorem name_at13 : ∀ w : World, (Instr.index 49 (.agg #[.string ⟨#[104, 101, 108, 108, 111]⟩, .string ⟨#[114, 101, 113, 117, 101, 115, 116]⟩, .string ⟨#[97, 99, 116, 105, 111, 110]⟩, .string ⟨#[105, 110, 115, 116, 114, 117, 99, 116, 105, 111, 110]⟩, .string ⟨#[109, 97, 116, 99, 104]⟩, .string ⟨#[102, 108, 111, 119]⟩, .string ⟨#[103, 114, 111, 117, 112]⟩, .string ⟨#[112, 111, 114, 116]⟩, .string ⟨#[116, 97, 98, 108, 101]⟩, .string ⟨#[113, 117, 101, 117, 101]⟩, .string ⟨#[99, 111, 110, 102, 105, 103]⟩, .string ⟨#[114, 111, 108, 101]⟩, .string ⟨#[109, 101, 116, 101, 114]⟩, .string ⟨#[102, 101, 97, 116, 117, 114, 101, 115]⟩]) (.int .i64 13)).run Tryd.prog w = .ok (.string ⟨#[102, 101, 97, 116, 117, 114, 101, 115]⟩) w := fun _ => by kernel_rfl
theorem name_at (t : Nat) (ht : t < 14) : ∀ w : World, (Instr.index 49 (.agg #[.string ⟨#[104, 101, 108, 108, 111]⟩, .string ⟨#[114, 101, 113, 117, 101, 115, 116]⟩, .string ⟨#[97, 99, 116, 105, 111, 110]⟩, .string ⟨#[105, 110, 115, 116, 114, 117, 99, 116, 105, 111, 110]⟩, .string ⟨#[109, 97, 116, 99, 104]⟩, .string ⟨#[102, 108, 111, 119]⟩, .string ⟨#[103, 114, 111, 117, 112]⟩, .string ⟨#[112, 111, 114, 116]⟩, .string ⟨#[116, 97, 98, 108, 101]⟩, .string ⟨#[113, 117, 101, 117, 101]⟩, .string ⟨#[99, 111, 110, 102, 105, 103]⟩, .string ⟨#[114, 111, 108, 101]⟩, .string ⟨#[109, 101, 116, 101, 114]⟩, .string ⟨#[102, 101, 97, 116, 117, 114, 101, 115]⟩]) (.int .i64 (t : Int))).run Tryd.prog w = .ok (.string ⟨(nameL t).toArray⟩) w := by
  have : t = 0 ∨ t = 1 ∨ t = 2 ∨ t = 3 ∨ t = 4 ∨ t = 5 ∨ t = 6 ∨ t = 7 ∨ t = 8 ∨ t = 9 ∨ t = 10 ∨ t = 11 ∨ t = 12 ∨ t = 13 := by omega
  rcases this with rfl | rfl | rfl | rfl | rfl | rfl | rfl | rfl | rfl | rfl | rfl | rfl | rfl | rfl
  · exact name_at0
  · exact name_at1
  · exact name_at2
  · exact name_at3
  · exact name_at4
  · exact name_at5
  · exact name_at6
  · exact name_at7
  · exact name_at8
  · exact name_at9
  · exact name_at10
  · exact name_at11
  · exact name_at12
  · exact name_at13
theorem name_len (t : Nat) (ht : t < 14) : (nameL t).length ≤ 11 := by
  have : t = 0 ∨ t = 1 ∨ t = 2 ∨ t = 3 ∨ t = 4 ∨ t = 5 ∨ t = 6 ∨ t = 7 ∨ t = 8 ∨ t = 9 ∨ t = 10 ∨ t = 11 ∨ t = 12 ∨ t = 13 := by omega
  rcases this with rfl | rfl | rfl | rfl | rfl | rfl | rfl | rfl | rfl | rfl | rfl | rfl | rfl | rfl <;> decide
theorem dig_len (c : Nat) : (dig c).length ≤ 2 := by
  unfold dig
  split <;> simp
theorem gr_itoaS {w : World} (c : Nat) (h : c < 16) (s : Gr w) : Calls Tryd.prog 23 #[.int .i64 (c : Int)] s.v fun e w' => e = .returned (.string ⟨(dig c).toArray⟩) ∧ ∃ s' : Gr w, w' = s'.v :=
  (Tryd.strconv_Itoa_small c (by omega) s.v).mono fun _ _ ⟨he, hw⟩ => ⟨by rw [he, dig_eq c h], s, hw⟩

set_option maxHeartbeats 3200000 in
theorem name_pair (t c : Nat) (ht : t < 14) (hc : (c : Int) < cod t) (w : World) : Calls Tryd.prog 15 #[.int .i64 (256 * (t : Int) + c + 1)] w fun e w' => e = .returned (.string ⟨(nameL t ++ [32] ++ dig c).toArray⟩) ∧ Grew w w' := by
  obtain ⟨p1, p2, p3⟩ := pr_of (t := t) (c := c) (by omega) (by omega) hc
  have hcl := cod_le t
  have hp := pair_eq (256 * (t : Int) + c + 1) (by omega) (by omega) w
  rw [p1, p2, p3] at hp
  have hc16 : c < 16 := by omega
  clear p1 p2 p3 hc hcl
  have hix := name_at t ht
  have hnl := name_len t ht
  have hdl := dig_len c
  have hit := fun (w : World) (s : Gr w) => gr_itoaS c hc16 s
  generalize nameL t = nl at *
  generalize dig c = dl at *
  have z1 : ∀ w : World, (Op.stringOp .add (⟨nl.toArray⟩ : ByteArray) ⟨#[32]⟩).run Tryd.prog w = .ok (.string ⟨(nl ++ [32]).toArray⟩) w := fun w => run_string_add_lists w nl [32] (by omega) (by decide)
  have z2 : ∀ w : World, (Op.stringOp .add (⟨(nl ++ [32]).toArray⟩ : ByteArray) ⟨dl.toArray⟩).run Tryd.prog w = .ok (.string ⟨(nl ++ [32] ++ dl).toArray⟩) w := fun w => run_string_add_lists w (nl ++ [32]) dl (by simp; omega) (by omega)
  generalize 256 * (t : Int) + c + 1 = e0 at *
  go_enter Tryd.func15, Tryd.ntmps15
  go_wp2_with fail
  go_at_call 8
  refine hp.mono ?_
  rintro e w1 ⟨rfl, rfl⟩
  go_wp2
  have inst : Nonempty (Gr w1) := ⟨⟨w1, Ext.refl _ _⟩⟩
  refine wp_region_quiet_at (C := fun w' => ∃ s : Gr w1, w' = s.v) (by kernel_rfl) (by kernel_rfl) ⟨⟨_, (Ext.refl _ w1).drew⟩, rfl⟩ ?_
  clear hp
  repeat (quiet_step (first
    | (go_at_call 20; exact gr_names _)
    | (go_at_call 23; exact hit _ _)))
  refine wpQuiet_nil ?_
  intro _ hw'
  obtain ⟨sx, hw''⟩ := hw'
  subst hw''
  go_wp2
  go_ret
  exact ⟨by simp, sx.h⟩
end Go.Proofs.YtfdgflpkdidooaaDoor
