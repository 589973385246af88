/- Read of 'own 337'; the fixed calls. -/
import Derived.Test.YtfdgflpkdidooaaDoorName
namespace Go.Proofs.YtfdgflpkdidooaaDoor
open Go.RowKit

theorem cut337 : Lib.cut [111, 119, 110, 32, 51, 51, 55] [32] = ([111, 119, 110], [51, 51, 55], true) := by decide
theorem atoi337 : Lib.atoi [51, 51, 55] = some 337 := by decide
theorem grew_of_below {w w' : World} (h : Below w.heap.size w w') : Grew w w' := ⟨h.os, h.tape, h.output, h.size, fun k hk _ => h.block k hk⟩
theorem bytes_grew (w : World) (s : ByteArray) : Grew w (Lib.bytesWorld w 5 s) := grew_of_below (Go.Joins.below_bytesWorld _ _ _ _ (Nat.le_refl _))

def nameList : List ByteArray := [⟨#[104, 101, 108, 108, 111]⟩, ⟨#[114, 101, 113, 117, 101, 115, 116]⟩, ⟨#[97, 99, 116, 105, 111, 110]⟩, ⟨#[105, 110, 115, 116, 114, 117, 99, 116, 105, 111, 110]⟩, ⟨#[109, 97, 116, 99, 104]⟩, ⟨#[102, 108, 111, 119]⟩, ⟨#[103, 114, 111, 117, 112]⟩, ⟨#[112, 111, 114, 116]⟩, ⟨#[116, 97, 98, 108, 101]⟩, ⟨#[113, 117, 101, 117, 101]⟩, ⟨#[99, 111, 110, 102, 105, 103]⟩, ⟨#[114, 111, 108, 101]⟩, ⟨#[109, 101, 116, 101, 114]⟩, ⟨#[102, 101, 97, 116, 117, 114, 101, 115]⟩]

theorem name_cells (w : World) : ∀ j, j < nameList.length → (w.alloc (.cells namesV 49)).cell? ⟨w.heap.size, 0 + j, none⟩ = some (.string (nameList.getD j ByteArray.empty)) := by
  intro j hj
  rw [World.cell?_alloc_at _ _ _ _ rfl]
  have : j = 0 ∨ j = 1 ∨ j = 2 ∨ j = 3 ∨ j = 4 ∨ j = 5 ∨ j = 6 ∨ j = 7 ∨ j = 8 ∨ j = 9 ∨ j = 10 ∨ j = 11 ∨ j = 12 ∨ j = 13 := by simp [nameList] at hj; omega
  rcases this with rfl | rfl | rfl | rfl | rfl | rfl | rfl | rfl | rfl | rfl | rfl | rfl | rfl | rfl <;> rfl
theorem idx_own : Lib.idxOfS (List.take 14 nameList) ⟨#[111, 119, 110]⟩ = -1 := by decide

set_option maxHeartbeats 3200000 in
theorem read_337 (w : World) (h : Lain w) : Calls Tryd.prog 13 #[.string ⟨#[111, 119, 110, 32, 51, 51, 55]⟩] w fun e w' => e = .returned (.tuple #[.int .i64 10337, .bool true]) ∧ Grew w w' := by
  obtain ⟨m, hm⟩ := h.max
  have hnil : ∀ w : World, (binOp .neq 46 .nilIface .nilIface).run Tryd.prog w = .ok (.bool false) w := fun _ => rfl
  go_enter Tryd.func13, Tryd.ntmps13
  go_wp2_with fail
  go_at_call 18
  refine (Tryd.strings_Cut _ _ m w (by decide) hm).mono ?_
  rintro e w1 ⟨rfl, n1, hn1⟩
  have hX : Grew w w1 := by rw [hn1]; exact (Ext.refl _ _).drewN n1
  have h1 := h.keep hX
  clear hn1 hm
  rw [cut337]
  go_wp2_with fail
  go_at_call 19
  refine (Tryd.strconv_Atoi _ 337 (by decide) atoi337 w1).mono ?_
  rintro e w2 ⟨rfl, hw2⟩
  have hX2 : Grew w1 w2 := by
    obtain ⟨t, rfl⟩ := hw2
    exact bytes_grew _ _
  have h2 := h1.keep hX2
  replace hX := hX.trans hX2
  clear hw2 hX2
  go_wp2_with fail
  go_at_call 20
  refine (names_eq w2).mono ?_
  rintro e w3 ⟨rfl, hX3⟩
  have h3 := h2.keep hX3
  replace hX := hX.trans hX3
  clear hX3 h1 h2
  rw [show namesV = #[.string ⟨#[104, 101, 108, 108, 111]⟩, .string ⟨#[114, 101, 113, 117, 101, 115, 116]⟩, .string ⟨#[97, 99, 116, 105, 111, 110]⟩, .string ⟨#[105, 110, 115, 116, 114, 117, 99, 116, 105, 111, 110]⟩, .string ⟨#[109, 97, 116, 99, 104]⟩, .string ⟨#[102, 108, 111, 119]⟩, .string ⟨#[103, 114, 111, 117, 112]⟩, .string ⟨#[112, 111, 114, 116]⟩, .string ⟨#[116, 97, 98, 108, 101]⟩, .string ⟨#[113, 117, 101, 117, 101]⟩, .string ⟨#[99, 111, 110, 102, 105, 103]⟩, .string ⟨#[114, 111, 108, 101]⟩, .string ⟨#[109, 101, 116, 101, 114]⟩, .string ⟨#[102, 101, 97, 116, 117, 114, 101, 115]⟩] from rfl]
  go_wp2_with fail
  go_at_call 21
  refine (Tryd.slices_Index_string w3.heap.size 0 14 14 nameList ⟨#[111, 119, 110]⟩ _ (by decide) (by decide) (name_cells w3)).mono ?_
  rintro e w4 ⟨rfl, hw4⟩
  have hX4 : Grew w3 w4 := by rw [hw4]; exact (Ext.refl _ _).alloc _
  have h4 := h3.keep hX4
  replace hX := hX.trans hX4
  clear hw4 hX4 h3
  rw [idx_own]
  go_wp2_with fail
  go_at_call 15
  refine (name_337 _ h4).mono ?_
  rintro e w5 ⟨rfl, hX5⟩
  go_wp2
  go_ret2
  exact ⟨rfl, hX.trans hX5⟩

set_option maxHeartbeats 3200000 in
theorem sure_ok (w : World) (h : Lain w) : Calls Tryd.prog 12 #[] w fun e w' => e = .returned (.bool true) ∧ Grew w w' := by
  go_enter Tryd.func12, Tryd.ntmps12
  go_wp2_with fail
  go_at_call 6
  refine (make_eq 2 13 w).mono ?_
  rintro e w1 ⟨rfl, rfl⟩
  rw [show mk 2 13 = 526 by decide, show mkOk 2 13 = true by decide]
  go_wp2_with fail
  go_at_call 8
  refine (pair_eq 526 (by decide) (by decide) _).mono ?_
  rintro e w2 ⟨rfl, rfl⟩
  rw [show prT 526 = 2 by decide, show prC 526 = 13 by decide, show prOk 526 = true by decide]
  go_wp2_with fail
  go_at_call 13
  refine (read_337 _ h).mono ?_
  rintro e w3 ⟨rfl, hX3⟩
  go_wp2_with fail
  go_at_call 15
  refine (name_526 _).mono ?_
  rintro e w4 ⟨rfl, hX4⟩
  go_wp2_with fail
  go_at_call 15
  refine (name_0 _).mono ?_
  rintro e w5 ⟨rfl, hX5⟩
  go_wp2
  go_ret
  exact ⟨rfl, (hX3.trans hX4).trans hX5⟩
end Go.Proofs.YtfdgflpkdidooaaDoor
