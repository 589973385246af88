/- 'FaultBack' gives true. -/
import Derived.Test.YtfdgflpkdidooaaDoorNameAll
namespace Go.Proofs.YtfdgflpkdidooaaDoor
open Go.RowKit

set_option maxHeartbeats 6400000 in
set_option maxRecDepth 20000 in
theorem back_ok (e0 f0 : Int) (hb : -9223372036854775808 ≤ e0) (hb2 : e0 ≤ 9223372036854775807) (hc : -9223372036854775808 ≤ f0) (hc2 : f0 ≤ 9223372036854775807) (w : World) (h : Lain w) : Calls Tryd.prog 5 #[.int .i64 e0, .int .i64 f0] w fun e w' => e = .returned (.bool true) ∧ Grew w w' := by
  by_cases hp : prOk e0 = true
  · obtain ⟨t, c, ht, hcc, hc16, he, h1, h2'⟩ := pr_yes hp
    have hne : nm e0 ≠ [] := by
      simp only [nm]; rw [if_pos hp]; simp
    have hpe := pair_eq e0 hb hb2 w
    rw [h1, h2', hp] at hpe
    have hmk := make_eq (t : Int) (c : Int) w
    rw [show mk (t : Int) (c : Int) = e0 by rw [mk, if_pos ⟨by omega, hcc⟩, he], show mkOk (t : Int) (c : Int) = true by simp only [mkOk]; exact decide_eq_true ⟨by omega, hcc⟩] at hmk
    have hcd := codes_eq (t : Int) w
    generalize cod (t : Int) = cd at *
    clear he h1 h2' hp ht hc16
    go_enter Tryd.func5, Tryd.ntmps5
    go_wp2_with fail
    go_at_call 8
    refine hpe.mono ?_
    rintro e w1 ⟨rfl, rfl⟩
    go_wp2_with fail
    go_at_call 6
    refine hmk.mono ?_
    rintro e w1 ⟨rfl, rfl⟩
    go_wp2_with fail
    go_at_call 10
    refine hcd.mono ?_
    rintro e w1 ⟨rfl, rfl⟩
    clear hpe hmk hcd
    go_wp2_with fail
    go_at_call 15
    refine (name_any e0 hb hb2 w1 h).mono ?_
    rintro e w2 ⟨rfl, hX2⟩
    have h2 := h.keep hX2
    have hrd := fun w hw => read_any e0 hne w hw
    have hff := fun w hw => name_any f0 hc hc2 w hw
    have hcmp : e0 ≠ f0 → nm e0 ≠ nm f0 := fun hn he => hn (nm_inj hne he)
    by_cases hef : e0 = f0
    · subst hef
      clear hcmp
      generalize nm e0 = l at *
      have hl1 : (l == []) = false := by simpa using hne
      have hl2 : l.isEmpty = false := by simpa using hne
      go_wp2_with fail
      go_at_call 13
      refine (hrd w2 h2).mono ?_
      rintro e w3 ⟨rfl, hX3⟩
      have h3 := h2.keep hX3
      replace hX2 := hX2.trans hX3
      clear hX3
      go_wp2_with fail
      go_at_call 15
      refine (hff w3 h3).mono ?_
      rintro e w4 ⟨rfl, hX4⟩
      have h4 := h3.keep hX4
      replace hX2 := hX2.trans hX4
      clear hX4 hrd hff
      go_wp2_with fail
      go_at_call 12
      refine (sure_ok w4 h4).mono ?_
      rintro e w5 ⟨rfl, hX5⟩
      go_wp2
      go_ret
      exact ⟨rfl, hX2.trans hX5⟩
    · have hne2 := hcmp hef
      have hfb : (e0 == f0) = false := by simp [hef]
      clear hcmp
      generalize nm e0 = l at *
      generalize nm f0 = lf at *
      have hl1 : (l == []) = false := by simpa using hne
      have hl2 : l.isEmpty = false := by simpa using hne
      have hl3 : (l == lf) = false := by simpa using hne2
      go_wp2_with fail
      go_at_call 13
      refine (hrd w2 h2).mono ?_
      rintro e w3 ⟨rfl, hX3⟩
      have h3 := h2.keep hX3
      replace hX2 := hX2.trans hX3
      clear hX3
      go_wp2_with fail
      go_at_call 15
      refine (hff w3 h3).mono ?_
      rintro e w4 ⟨rfl, hX4⟩
      have h4 := h3.keep hX4
      replace hX2 := hX2.trans hX4
      clear hX4 hrd hff
      go_wp2_with fail
      go_at_call 12
      refine (sure_ok w4 h4).mono ?_
      rintro e w5 ⟨rfl, hX5⟩
      go_wp2
      go_ret
      exact ⟨rfl, hX2.trans hX5⟩
  · have hno : prOk e0 = false := by simpa using hp
    have hpe := pair_eq e0 hb hb2 w
    rw [(pr_no hno).1, (pr_no hno).2, hno] at hpe
    by_cases hne : nm e0 = []
    · have hz : ¬ e0 = 0 := by rintro rfl; revert hne; decide
      have hzb : (e0 != 0) = true := by simp [hz]
      have hna : ∀ w, Lain w → Calls Tryd.prog 15 #[.int .i64 e0] w fun e w' => e = .returned (.string ⟨#[]⟩) ∧ Grew w w' := fun w hw => by
        have := name_any e0 hb hb2 w hw
        rw [hne] at this
        exact this
      clear hne hno hp
      go_enter Tryd.func5, Tryd.ntmps5
      go_wp2_with fail
      go_at_call 8
      refine hpe.mono ?_
      rintro e w1 ⟨rfl, rfl⟩
      clear hpe
      go_wp2_with fail
      go_at_call 15
      refine (hna w1 h).mono ?_
      rintro e w2 ⟨rfl, hX2⟩
      clear hna
      go_wp2_with fail
      go_at_call 12
      refine (sure_ok w2 (h.keep hX2)).mono ?_
      rintro e w5 ⟨rfl, hX5⟩
      go_wp2
      go_ret
      exact ⟨rfl, hX2.trans hX5⟩
    · clear hno hp
      go_enter Tryd.func5, Tryd.ntmps5
      go_wp2_with fail
      go_at_call 8
      refine hpe.mono ?_
      rintro e w1 ⟨rfl, rfl⟩
      clear hpe
      go_wp2_with fail
      go_at_call 15
      refine (name_any e0 hb hb2 w1 h).mono ?_
      rintro e w2 ⟨rfl, hX2⟩
      have h2 := h.keep hX2
      have hrd := fun w hw => read_any e0 hne w hw
      have hff := fun w hw => name_any f0 hc hc2 w hw
      have hcmp : e0 ≠ f0 → nm e0 ≠ nm f0 := fun hn he => hn (nm_inj hne he)
      by_cases hef : e0 = f0
      · subst hef
        clear hcmp
        generalize nm e0 = l at *
        have hl1 : (l == []) = false := by simpa using hne
        have hl2 : l.isEmpty = false := by simpa using hne
        go_wp2_with fail
        go_at_call 13
        refine (hrd w2 h2).mono ?_
        rintro e w3 ⟨rfl, hX3⟩
        have h3 := h2.keep hX3
        replace hX2 := hX2.trans hX3
        clear hX3
        go_wp2_with fail
        go_at_call 15
        refine (hff w3 h3).mono ?_
        rintro e w4 ⟨rfl, hX4⟩
        have h4 := h3.keep hX4
        replace hX2 := hX2.trans hX4
        clear hX4 hrd hff
        go_wp2_with fail
        go_at_call 12
        refine (sure_ok w4 h4).mono ?_
        rintro e w5 ⟨rfl, hX5⟩
        go_wp2
        go_ret
        exact ⟨rfl, hX2.trans hX5⟩
      · have hne2 := hcmp hef
        have hfb : (e0 == f0) = false := by simp [hef]
        clear hcmp
        generalize nm e0 = l at *
        generalize nm f0 = lf at *
        have hl1 : (l == []) = false := by simpa using hne
        have hl2 : l.isEmpty = false := by simpa using hne
        have hl3 : (l == lf) = false := by simpa using hne2
        go_wp2_with fail
        go_at_call 13
        refine (hrd w2 h2).mono ?_
        rintro e w3 ⟨rfl, hX3⟩
        have h3 := h2.keep hX3
        replace hX2 := hX2.trans hX3
        clear hX3
        go_wp2_with fail
        go_at_call 15
        refine (hff w3 h3).mono ?_
        rintro e w4 ⟨rfl, hX4⟩
        have h4 := h3.keep hX4
        replace hX2 := hX2.trans hX4
        clear hX4 hrd hff
        go_wp2_with fail
        go_at_call 12
        refine (sure_ok w4 h4).mono ?_
        rintro e w5 ⟨rfl, hX5⟩
        go_wp2
        go_ret
        exact ⟨rfl, hX2.trans hX5⟩
end Go.Proofs.YtfdgflpkdidooaaDoor
