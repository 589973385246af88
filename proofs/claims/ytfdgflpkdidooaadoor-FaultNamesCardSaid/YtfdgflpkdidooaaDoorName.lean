/- Name at the fixed errors. -/
import Derived.Test.YtfdgflpkdidooaaDoorNames
import Derived.Test.YtfdgflpkdidooaaDoorShelf
import Derived.Test.YtfdgflpkdidooaaDoorRefPair
import Derived.Deep.QuietTactic
import Derived.Lib.SmallJoins
namespace Go.Proofs.YtfdgflpkdidooaaDoor
open Go.RowKit

theorem wp_region_quiet_at {P : Program} {C : World → Prop} {id : Nat} {Q : Exit → Act → World → Prop} {a : Act} {w : World} {l : List Oper} (hm : P.follows .mixedOrders = true) (hB : Region.lexB .any l.toArray = true) (hC : C w.drew)
    (h : wpQuiet P l.toArray C (fun a' => ∀ w', C w' → Q .normal a' w') l a) : (Code.region id l.toArray true).wp P Q a w := wp_region_quiet (C := C) hm hB hC (by simpa using h)

/-- A world in which nothing old has turned. -/
structure Gr (w : World) where
  v : World
  h : Grew w v

theorem gr_names {w : World} (s : Gr w) : Calls Tryd.prog 20 #[] s.v fun e w' => e = .returned (.agg #[.string ⟨#[104, 101, 108, 108, 111]⟩, .string ⟨#[114, 101, 113, 117, 101, 115, 116]⟩, .string ⟨#[97, 99, 116, 105, 111, 110]⟩, .string ⟨#[105, 110, 115, 116, 114, 117, 99, 116, 105, 111, 110]⟩, .string ⟨#[109, 97, 116, 99, 104]⟩, .string ⟨#[102, 108, 111, 119]⟩, .string ⟨#[103, 114, 111, 117, 112]⟩, .string ⟨#[112, 111, 114, 116]⟩, .string ⟨#[116, 97, 98, 108, 101]⟩, .string ⟨#[113, 117, 101, 117, 101]⟩, .string ⟨#[99, 111, 110, 102, 105, 103]⟩, .string ⟨#[114, 111, 108, 101]⟩, .string ⟨#[109, 101, 116, 101, 114]⟩, .string ⟨#[102, 101, 97, 116, 117, 114, 101, 115]⟩]) ∧ ∃ s' : Gr w, w' = s'.v :=
  (names_eq s.v).mono fun _ _ ⟨he, hX⟩ => ⟨he, ⟨_, s.h.trans hX⟩, rfl⟩
theorem digits13 : Lib.decDigits 13 = [49, 51] := by
  rw [Lib.decDigits, dif_neg (by decide), Lib.decDigits, dif_pos (by decide)]
  rfl
theorem gr_itoa13 {w : World} (s : Gr w) : Calls Tryd.prog 23 #[.int .i64 13] s.v fun e w' => e = .returned (.string ⟨#[49, 51]⟩) ∧ ∃ s' : Gr w, w' = s'.v :=
  (Tryd.strconv_Itoa_small 13 (by decide) s.v).mono fun _ _ ⟨he, hw⟩ => ⟨by rw [he, digits13], s, hw⟩

/-- The table of powers of ten, and the variable of the search, stand in memory. -/
structure Lain (w : World) : Prop where
  tab : Lib.TabIs Tryd.prog w "internal/strconv.uint64pow10" .u64 Lib.pow10Tab
  max : ∃ m, w.cell? ⟨0, 0, none⟩ = some (.int .i64 m)
theorem powGlobal : ∃ g, Tryd.prog.globalNamed "internal/strconv.uint64pow10" = some g := by
  have h : (Tryd.prog.globalNamed "internal/strconv.uint64pow10").isSome = true := by kernel_rfl
  exact Option.isSome_iff_exists.1 h
theorem Lain.keep {w w' : World} (h : Lain w) (hx : Grew w w') : Lain w' := by
  have hb := hx.below (Nat.le_refl _) (fun _ _ h => h)
  obtain ⟨g, hg⟩ := powGlobal
  obtain ⟨m, hm⟩ := h.max
  exact ⟨Go.Joins.tab_stays hg h.tab hb (Nat.le_refl _), m, (hx.cell (World.block_lt_of_cell? _ _ hm) (fun h => h)).trans hm⟩

theorem digits337 : Lib.itoa 337 = [51, 51, 55] := by
  rw [Lib.itoa, if_neg (by decide)]
  rw [show (337 : Int).toNat = 337 from rfl, Lib.decDigits, dif_neg (by decide), Lib.decDigits, dif_neg (by decide), Lib.decDigits, dif_pos (by decide)]
  rfl
theorem grow_grew (w : World) (k : Nat) (os : Array Obj) : Grew w (Sort.grow (w.drewN k) os) :=
  ⟨rfl, rfl, rfl, by simp [Sort.grow, World.drewN], fun j hj _ => by simp [Sort.grow, World.drewN, Array.getElem?_append, hj]⟩
theorem itoa337 (w : World) (h : Lain w) : Calls Tryd.prog 23 #[.int .i64 337] w fun e w' => e = .returned (.string ⟨#[51, 51, 55]⟩) ∧ Grew w w' := by
  refine (Tryd.strconv_Itoa 337 (by decide) (by decide) w h.tab).mono ?_
  rintro e w' ⟨rfl, k, os, rfl⟩
  exact ⟨by rw [digits337], grow_grew w k os⟩

set_option maxHeartbeats 1600000 in
theorem name_0 (w : World) : Calls Tryd.prog 15 #[.int .i64 0] w fun e w' => e = .returned (.string ⟨#[111, 107]⟩) ∧ Grew w w' := by
  go_enter Tryd.func15, Tryd.ntmps15
  go_wp2_with fail
  go_at_call 8
  refine (pair_eq 0 (by decide) (by decide) w).mono ?_
  rintro e w1 ⟨rfl, rfl⟩
  rw [show prT 0 = 0 by decide, show prC 0 = 0 by decide, show prOk 0 = false by decide]
  go_wp2
  go_ret
  exact ⟨rfl, Ext.refl _ _⟩

set_option maxHeartbeats 1600000 in
theorem name_337 (w : World) (h : Lain w) : Calls Tryd.prog 15 #[.int .i64 10337] w fun e w' => e = .returned (.string ⟨#[111, 119, 110, 32, 51, 51, 55]⟩) ∧ Grew w w' := by
  go_enter Tryd.func15, Tryd.ntmps15
  go_wp2_with fail
  go_at_call 8
  refine (pair_eq 10337 (by decide) (by decide) w).mono ?_
  rintro e w1 ⟨rfl, rfl⟩
  rw [show prT 10337 = 0 by decide, show prC 10337 = 0 by decide, show prOk 10337 = false by decide]
  go_wp2_with fail
  go_at_call 24
  refine (ours_eq 10337 _).mono ?_
  rintro e w1 ⟨rfl, rfl⟩
  rw [show (decide ((10001 : Int) ≤ 10337 ∧ (10337 : Int) ≤ 10008) || decide ((10337 : Int) = 10337)) = true by decide]
  go_wp2_with fail
  go_at_call 23
  refine (itoa337 _ h).mono ?_
  rintro e w1 ⟨rfl, hX⟩
  go_wp2
  go_ret
  exact ⟨rfl, hX⟩

set_option maxHeartbeats 3200000 in
theorem name_526 (w : World) : Calls Tryd.prog 15 #[.int .i64 526] w fun e w' => e = .returned (.string ⟨#[97, 99, 116, 105, 111, 110, 32, 49, 51]⟩) ∧ Grew w w' := by
  go_enter Tryd.func15, Tryd.ntmps15
  go_wp2_with fail
  go_at_call 8
  refine (pair_eq 526 (by decide) (by decide) w).mono ?_
  rintro e w1 ⟨rfl, rfl⟩
  rw [show prT 526 = 2 by decide, show prC 526 = 13 by decide, show prOk 526 = true by decide]
  go_wp2
  have hix : ∀ w : World, (Instr.index 49 (.agg #[.string ⟨#[104, 101, 108, 108, 111]⟩, .string ⟨#[114, 101, 113, 117, 101, 115, 116]⟩, .string ⟨#[97, 99, 116, 105, 111, 110]⟩, .string ⟨#[105, 110, 115, 116, 114, 117, 99, 116, 105, 111, 110]⟩, .string ⟨#[109, 97, 116, 99, 104]⟩, .string ⟨#[102, 108, 111, 119]⟩, .string ⟨#[103, 114, 111, 117, 112]⟩, .string ⟨#[112, 111, 114, 116]⟩, .string ⟨#[116, 97, 98, 108, 101]⟩, .string ⟨#[113, 117, 101, 117, 101]⟩, .string ⟨#[99, 111, 110, 102, 105, 103]⟩, .string ⟨#[114, 111, 108, 101]⟩, .string ⟨#[109, 101, 116, 101, 114]⟩, .string ⟨#[102, 101, 97, 116, 117, 114, 101, 115]⟩]) (.int .i64 2)).run Tryd.prog w = .ok (.string ⟨#[97, 99, 116, 105, 111, 110]⟩) w := fun _ => by kernel_rfl
  have inst : Nonempty (Gr w1) := ⟨⟨w1, Ext.refl _ _⟩⟩
  refine wp_region_quiet_at (C := fun w' => ∃ s : Gr w1, w' = s.v) (by kernel_rfl) (by kernel_rfl) ⟨⟨_, (Ext.refl _ w1).drew⟩, rfl⟩ ?_
  repeat (quiet_step (first
    | (go_at_call 20; exact gr_names _)
    | (go_at_call 23; exact gr_itoa13 _)))
  refine wpQuiet_nil ?_
  intro _ hw'
  obtain ⟨sx, hw''⟩ := hw'
  subst hw''
  go_wp2
  go_ret
  exact ⟨rfl, sx.h⟩
end Go.Proofs.YtfdgflpkdidooaaDoor
