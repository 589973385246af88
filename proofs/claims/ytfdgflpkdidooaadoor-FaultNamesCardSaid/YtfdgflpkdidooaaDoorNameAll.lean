/- Name and Read at every error. -/
import Derived.Test.YtfdgflpkdidooaaDoorFin
namespace Go.Proofs.YtfdgflpkdidooaaDoor
open Go.RowKit

theorem pr_no {e : Int} (h : prOk e = false) : prT e = 0 ∧ prC e = 0 := by
  have hn : ¬ (1 ≤ e ∧ (e - 1) % 256 < cod ((e - 1) / 256)) := by simpa [prOk] using h
  exact ⟨by simp only [prT]; rw [if_neg hn], by simp only [prC]; rw [if_neg hn]⟩
theorem pr_far {e : Int} (h : 3584 < e) : prOk e = false := by
  simp only [prOk]
  refine decide_eq_false fun ⟨h1, h2⟩ => ?_
  have h3 := cod_in (t := (e - 1) / 256) (by omega)
  omega

set_option maxHeartbeats 3200000 in
theorem name_own (k : Nat) (h1 : 1 ≤ k) (h8 : k ≤ 8) (w : World) : Calls Tryd.prog 15 #[.int .i64 (10000 + (k : Int))] w fun e w' => e = .returned (.string ⟨([111, 119, 110, 32] ++ dig k).toArray⟩) ∧ Grew w w' := by
  have hno := pr_far (e := 10000 + (k : Int)) (by omega)
  have hp := pair_eq (10000 + (k : Int)) (by omega) (by omega) w
  rw [(pr_no hno).1, (pr_no hno).2, hno] at hp
  have ho := ours_eq (10000 + (k : Int)) w
  rw [show (decide (10001 ≤ 10000 + (k : Int) ∧ 10000 + (k : Int) ≤ 10008) || decide (10000 + (k : Int) = 10337)) = true by simp; omega] at ho
  have hi := Tryd.strconv_Itoa_small k (by omega) w
  rw [dig_eq k (by omega)] at hi
  have hdl := dig_len k
  have z1 : ∀ w : World, (Op.stringOp .add (⟨#[111, 119, 110, 32]⟩ : ByteArray) ⟨(dig k).toArray⟩).run Tryd.prog w = .ok (.string ⟨([111, 119, 110, 32] ++ dig k).toArray⟩) w := fun w => run_string_add_lists w [111, 119, 110, 32] (dig k) (by decide) (by omega)
  generalize dig k = dl at *
  go_enter Tryd.func15, Tryd.ntmps15
  go_wp2_with fail
  go_at_call 8
  refine hp.mono ?_
  rintro e w1 ⟨rfl, rfl⟩
  go_wp2_with fail
  go_at_call 24
  refine ho.mono ?_
  rintro e w1 ⟨rfl, rfl⟩
  clear hp ho hno
  go_wp2_with fail
  go_at_call 23
  rw [show (10000 : Int) + (k : Int) - 10000 = k by omega]
  refine hi.mono ?_
  rintro e w1 ⟨rfl, rfl⟩
  go_wp2
  go_ret
  exact ⟨by simp, Ext.refl _ _⟩

set_option maxHeartbeats 3200000 in
theorem name_none (e0 : Int) (hno : prOk e0 = false) (h0 : e0 ≠ 0) (h3 : e0 ≠ 10337) (h4 : ¬ (10001 ≤ e0 ∧ e0 ≤ 10008)) (hb : -9223372036854775808 ≤ e0) (hb2 : e0 ≤ 9223372036854775807) (w : World) :
    Calls Tryd.prog 15 #[.int .i64 e0] w fun e w' => e = .returned (.string ⟨#[]⟩) ∧ Grew w w' := by
  have hp := pair_eq e0 hb hb2 w
  rw [(pr_no hno).1, (pr_no hno).2, hno] at hp
  have ho := ours_eq e0 w
  rw [show (decide (10001 ≤ e0 ∧ e0 ≤ 10008) || decide (e0 = 10337)) = false by simp [h3]; omega] at ho
  have hz : (e0 == 0) = false := by simp [h0]
  clear hno h0 h3 h4
  go_enter Tryd.func15, Tryd.ntmps15
  go_wp2_with fail
  go_at_call 8
  refine hp.mono ?_
  rintro e w1 ⟨rfl, rfl⟩
  go_wp2_with fail
  go_at_call 24
  refine ho.mono ?_
  rintro e w1 ⟨rfl, rfl⟩
  clear hp ho
  go_wp2
  go_ret
  exact ⟨rfl, Ext.refl _ _⟩

theorem name_any (e0 : Int) (hb : -9223372036854775808 ≤ e0) (hb2 : e0 ≤ 9223372036854775807) (w : World) (h : Lain w) : Calls Tryd.prog 15 #[.int .i64 e0] w fun e w' => e = .returned (.string ⟨(nm e0).toArray⟩) ∧ Grew w w' := by
  by_cases hp : prOk e0 = true
  · obtain ⟨t, c, ht, hc, hc16, he, h1, h2⟩ := pr_yes hp
    have e1 : nm e0 = nameL t ++ [32] ++ dig c := by simp only [nm]; rw [if_pos hp, h1, h2]; rfl
    rw [e1, he]
    exact name_pair t c ht hc w
  · have hno : prOk e0 = false := by simpa using hp
    by_cases h0 : e0 = 0
    · subst h0; exact name_0 w
    · by_cases h3 : e0 = 10337
      · subst h3
        rw [show nm 10337 = [111, 119, 110, 32, 51, 51, 55] by decide +kernel]
        exact name_337 w h
      · by_cases h4 : 10001 ≤ e0 ∧ e0 ≤ 10008
        · obtain ⟨k, rfl⟩ : ∃ k : Nat, e0 = 10000 + (k : Int) := ⟨(e0 - 10000).toNat, by omega⟩
          have e1 : nm (10000 + (k : Int)) = [111, 119, 110, 32] ++ dig k := by
            simp only [nm]; rw [if_neg hp, if_neg h0, if_neg h3, if_pos h4, show (10000 + (k : Int) - 10000).toNat = k by omega]
          rw [e1]
          exact name_own k (by omega) (by omega) w
        · have e1 : nm e0 = [] := by simp only [nm]; rw [if_neg hp, if_neg h0, if_neg h3, if_neg h4]
          rw [e1]
          exact name_none e0 hno h0 h3 h4 hb hb2 w

set_option maxHeartbeats 1600000 in
theorem read_ok (w : World) : Calls Tryd.prog 13 #[.string ⟨#[111, 107]⟩] w fun e w' => e = .returned (.tuple #[.int .i64 0, .bool true]) ∧ Grew w w' := by
  go_enter Tryd.func13, Tryd.ntmps13
  go_wp2
  go_ret2
  exact ⟨rfl, Ext.refl _ _⟩

theorem read_any (e0 : Int) (hne : nm e0 ≠ []) (w : World) (h : Lain w) : Calls Tryd.prog 13 #[.string ⟨(nm e0).toArray⟩] w fun e w' => e = .returned (.tuple #[.int .i64 e0, .bool true]) ∧ Grew w w' := by
  by_cases hp : prOk e0 = true
  · obtain ⟨t, c, ht, hc, hc16, he, h1, h2⟩ := pr_yes hp
    have hcl := cod_le t
    have e1 : nm e0 = nameL t ++ [32] ++ dig c := by simp only [nm]; rw [if_pos hp, h1, h2]; rfl
    have hnl := name_len t ht
    have hdl := dig_len c
    refine read_named ⟨(nm e0).toArray⟩ (nameL t) (dig c) c t e0 ?_ ?_ ?_ (by omega) (fin_atoi ⟨c, hc16⟩) (fin_idx ⟨t, ht⟩) (by omega) (by omega) ?_ ?_ (fun w hw => name_any e0 (by omega) (by omega) w hw) w h
    · rw [e1, ByteArray.toList_mk]; exact fin_ok ⟨t, ht⟩ ⟨c, hc16⟩
    · rw [e1]; simp only [ByteArray.size, List.size_toArray, List.length_append, List.length_cons, List.length_nil]; omega
    · rw [e1]; exact fin_cut ⟨t, ht⟩ ⟨c, hc16⟩
    · intro _; rw [mk, if_pos ⟨by omega, hc⟩, he]
    · simp; omega
  · by_cases h0 : e0 = 0
    · subst h0; exact read_ok w
    · by_cases h3 : e0 = 10337
      · subst h3
        rw [show nm 10337 = [111, 119, 110, 32, 51, 51, 55] by decide +kernel]
        exact read_337 w h
      · by_cases h4 : 10001 ≤ e0 ∧ e0 ≤ 10008
        · obtain ⟨k, rfl⟩ : ∃ k : Nat, e0 = 10000 + (k : Int) := ⟨(e0 - 10000).toNat, by omega⟩
          have e1 : nm (10000 + (k : Int)) = [111, 119, 110, 32] ++ dig k := by
            simp only [nm]; rw [if_neg hp, if_neg h0, if_neg h3, if_pos h4, show (10000 + (k : Int) - 10000).toNat = k by omega]
          have hdl := dig_len k
          refine read_named ⟨(nm (10000 + (k : Int))).toArray⟩ [111, 119, 110] (dig k) k (-1) (10000 + (k : Int)) ?_ ?_ ?_ (by omega) (fin_atoi ⟨k, by omega⟩) idx_own (by omega) (by omega) (fun h => by omega) ?_ (fun w hw => name_any _ (by omega) (by omega) w hw) w h
          · rw [e1, ByteArray.toList_mk]; exact own_ok ⟨k, by omega⟩
          · rw [e1]; simp only [ByteArray.size, List.size_toArray, List.length_append, List.length_cons, List.length_nil]; omega
          · rw [e1]; exact own_cut ⟨k, by omega⟩
          · simp; omega
        · exfalso; apply hne; simp only [nm]; rw [if_neg hp, if_neg h0, if_neg h3, if_neg h4]
end Go.Proofs.YtfdgflpkdidooaaDoor
