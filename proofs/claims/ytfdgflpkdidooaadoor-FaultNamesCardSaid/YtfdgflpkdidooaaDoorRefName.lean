/- The document's Name. -/
import Derived.Test.YtfdgflpkdidooaaDoorAll
import Derived.Deep.RegionWith
namespace Go.Proofs.YtfdgflpkdidooaaDoor
open Go.RowKit

theorem type_names (t : Nat) (ht : t < 14) : typeCells[t * 2]? = some (.string ⟨(nameL t).toArray⟩) := by
  have : t = 0 ∨ t = 1 ∨ t = 2 ∨ t = 3 ∨ t = 4 ∨ t = 5 ∨ t = 6 ∨ t = 7 ∨ t = 8 ∨ t = 9 ∨ t = 10 ∨ t = 11 ∨ t = 12 ∨ t = 13 := by omega
  rcases this with rfl | rfl | rfl | rfl | rfl | rfl | rfl | rfl | rfl | rfl | rfl | rfl | rfl | rfl <;> rfl

theorem types_drew (w : World) (t : Nat) (ht : t < 14) : Calls Tryd.prog 17 #[] w.drew fun e w' => e = .returned (.slice (some ⟨w.heap.size, 0, none⟩) 14 14) ∧ Grew w w' ∧ w'.cell? ⟨w.heap.size, t * 2, none⟩ = some (.string ⟨(nameL t).toArray⟩) := by
  refine (types_eq w.drew).mono ?_
  rintro e w' ⟨rfl, rfl⟩
  refine ⟨rfl, (Ext.refl _ w).drew.alloc _, ?_⟩
  rw [show w.heap.size = w.drew.heap.size from rfl, World.cell?_alloc_at _ _ _ _ rfl]
  exact type_names t ht

set_option maxHeartbeats 3200000 in
set_option maxRecDepth 20000 in
theorem refName_pair (t c : Nat) (ht : t < 14) (hc : (c : Int) < cod t) (w : World) : Calls Tryd.prog 16 #[.int .i64 (256 * (t : Int) + c + 1)] w fun e w' => e = .returned (.string ⟨(nameL t ++ [32] ++ dig c).toArray⟩) ∧ Grew w w' := by
  obtain ⟨p1, p2, p3⟩ := pr_of (t := t) (c := c) (by omega) (by omega) hc
  have hcl := cod_le t
  have hp := refPair_eq (256 * (t : Int) + c + 1) w
  rw [p1, p2, p3] at hp
  have hc16 : c < 16 := by omega
  clear p1 p2 p3 hc hcl
  have hnl := name_len t ht
  have hdl := dig_len c
  have htd := fun w => types_drew w t ht
  have hdg := fun w => digits_eq c (by omega) w
  rw [dig_eq c hc16] at hdg
  generalize nameL t = nl at *
  generalize dig c = dl at *
  have z1 : ∀ w : World, (Op.stringOp .add (⟨nl.toArray⟩ : ByteArray) ⟨#[32]⟩).run Tryd.prog w = .ok (.string ⟨(nl ++ [32]).toArray⟩) w := fun w => run_string_add_lists w nl [32] (by omega) (by decide)
  have z2 : ∀ w : World, (Op.stringOp .add (⟨(nl ++ [32]).toArray⟩ : ByteArray) ⟨dl.toArray⟩).run Tryd.prog w = .ok (.string ⟨(nl ++ [32] ++ dl).toArray⟩) w := fun w => run_string_add_lists w (nl ++ [32]) dl (by simp; omega) (by omega)
  generalize 256 * (t : Int) + c + 1 = e0 at *
  have ht' : (t : Int) < 14 := by omega
  go_enter Tryd.func16, Tryd.ntmps16
  go_wp2_with fail
  go_at_call 9
  refine hp.mono ?_
  rintro e w1 ⟨rfl, hX1⟩
  clear hp
  go_wp2
  go_region_with (first
    | (go_at_call 17; refine (htd _).mono ?_; rintro e w3 ⟨rfl, hX3, hc3⟩)
    | (go_at_call 25; refine (hdg _).mono ?_; rintro e w4 ⟨rfl, rfl⟩))
  all_goals
    go_wp2
    go_ret
    have z3 : nl ++ [32] ++ dl = nl ++ 32 :: dl := by simp
    rw [z3]
    exact ⟨rfl, hX1.trans hX3⟩

theorem refPair_no {e0 : Int} (hno : prOk e0 = false) (w : World) : Calls Tryd.prog 9 #[.int .i64 e0] w fun e w' => e = .returned (.tuple #[.int .i64 0, .int .i64 0, .bool false]) ∧ Grew w w' := by
  have hp := refPair_eq e0 w
  rw [(pr_no hno).1, (pr_no hno).2, hno] at hp
  exact hp

set_option maxHeartbeats 3200000 in
theorem refName_0 (w : World) : Calls Tryd.prog 16 #[.int .i64 0] w fun e w' => e = .returned (.string ⟨#[111, 107]⟩) ∧ Grew w w' := by
  have hp := refPair_no (e0 := 0) (by decide) w
  go_enter Tryd.func16, Tryd.ntmps16
  go_wp2_with fail
  go_at_call 9
  refine hp.mono ?_
  rintro e w1 ⟨rfl, hX1⟩
  go_wp2
  go_ret
  exact ⟨rfl, hX1⟩

set_option maxHeartbeats 3200000 in
theorem refName_own (e0 : Int) (k : Nat) (he : e0 - 10000 = (k : Int)) (hk : 1 ≤ k ∧ k ≤ 8 ∨ k = 337) (w : World) : Calls Tryd.prog 16 #[.int .i64 e0] w fun e w' => e = .returned (.string ⟨([111, 119, 110, 32] ++ Lib.decDigits k).toArray⟩) ∧ Grew w w' := by
  have hno := pr_far (e := e0) (by omega)
  have hp := refPair_no hno w
  have hd := fun w => digits_eq k (by omega) w
  have hdl := decDigits_len k (by omega)
  have z1 : ∀ w : World, (Op.stringOp .add (⟨#[111, 119, 110, 32]⟩ : ByteArray) ⟨(Lib.decDigits k).toArray⟩).run Tryd.prog w = .ok (.string ⟨([111, 119, 110, 32] ++ Lib.decDigits k).toArray⟩) w := fun w => run_string_add_lists w [111, 119, 110, 32] (Lib.decDigits k) (by decide) (by omega)
  have hz : (e0 == 0) = false := by simp; omega
  generalize Lib.decDigits k = dl at *
  rw [← he] at hd
  have hb : 10001 ≤ e0 := by omega
  have hb2 : e0 ≤ 10337 := by omega
  have hor : e0 ≤ 10008 ∨ e0 = 10337 := by omega
  clear hno hk he
  rcases hor with h8 | h8
  · go_enter Tryd.func16, Tryd.ntmps16
    go_wp2_with fail
    go_at_call 9
    refine hp.mono ?_
    rintro e w1 ⟨rfl, hX1⟩
    go_wp2_with fail
    go_at_call 25
    refine (hd _).mono ?_
    rintro e w1 ⟨rfl, rfl⟩
    go_wp2
    go_ret
    exact ⟨by simp, hX1⟩
  · subst h8
    go_enter Tryd.func16, Tryd.ntmps16
    go_wp2_with fail
    go_at_call 9
    refine hp.mono ?_
    rintro e w1 ⟨rfl, hX1⟩
    go_wp2_with fail
    go_at_call 25
    refine (hd _).mono ?_
    rintro e w1 ⟨rfl, rfl⟩
    go_wp2
    go_ret
    exact ⟨by simp, hX1⟩

set_option maxHeartbeats 3200000 in
theorem refName_none (e0 : Int) (hno : prOk e0 = false) (h0 : e0 ≠ 0) (h3 : e0 ≠ 10337) (h4 : ¬ (10001 ≤ e0 ∧ e0 ≤ 10008)) (w : World) :
    Calls Tryd.prog 16 #[.int .i64 e0] w fun e w' => e = .returned (.string ⟨#[]⟩) ∧ Grew w w' := by
  have hp := refPair_no hno w
  have hz : (e0 == 0) = false := by simp [h0]
  have hz3 : (e0 == 10337) = false := by simp [h3]
  have hor : e0 < 10001 ∨ 10008 < e0 := by omega
  clear hno h0 h3 h4
  rcases hor with h8 | h8
  all_goals
    go_enter Tryd.func16, Tryd.ntmps16
    go_wp2_with fail
    go_at_call 9
    refine hp.mono ?_
    rintro e w1 ⟨rfl, hX1⟩
    go_wp2
    go_ret
    exact ⟨rfl, hX1⟩

theorem refName_any (e0 : Int) (w : World) : Calls Tryd.prog 16 #[.int .i64 e0] w fun e w' => e = .returned (.string ⟨(nm e0).toArray⟩) ∧ Grew w w' := by
  by_cases hp : prOk e0 = true
  · obtain ⟨t, c, ht, hc, hc16, he, h1, h2⟩ := pr_yes hp
    have e1 : nm e0 = nameL t ++ [32] ++ dig c := by simp only [nm]; rw [if_pos hp, h1, h2]; rfl
    rw [e1, he]
    exact refName_pair t c ht hc w
  · have hno : prOk e0 = false := by simpa using hp
    by_cases h0 : e0 = 0
    · subst h0; exact refName_0 w
    · by_cases h3 : e0 = 10337
      · subst h3
        rw [show nm 10337 = [111, 119, 110, 32] ++ Lib.decDigits 337 by decide +kernel]
        exact refName_own 10337 337 rfl (.inr rfl) w
      · by_cases h4 : 10001 ≤ e0 ∧ e0 ≤ 10008
        · obtain ⟨k, rfl⟩ : ∃ k : Nat, e0 = 10000 + (k : Int) := ⟨(e0 - 10000).toNat, by omega⟩
          have e1 : nm (10000 + (k : Int)) = [111, 119, 110, 32] ++ Lib.decDigits k := by
            simp only [nm]; rw [if_neg hp, if_neg h0, if_neg h3, if_pos h4, show (10000 + (k : Int) - 10000).toNat = k by omega, dig_eq k (by omega)]
          rw [e1]
          exact refName_own _ k (by omega) (.inl (by omega)) w
        · have e1 : nm e0 = [] := by simp only [nm]; rw [if_neg hp, if_neg h0, if_neg h3, if_neg h4]
          rw [e1]
          exact refName_none e0 hno h0 h3 h4 w
end Go.Proofs.YtfdgflpkdidooaaDoor
