/- The document's Pair. -/
import Derived.Test.YtfdgflpkdidooaaDoorPair
namespace Go.Proofs.YtfdgflpkdidooaaDoor
open Go.RowKit

theorem pr_of {t c : Int} (h0 : 0 ≤ t) (h1 : 0 ≤ c) (h2 : c < cod t) : prT (256 * t + c + 1) = t ∧ prC (256 * t + c + 1) = c ∧ prOk (256 * t + c + 1) = true := by
  have hcl := cod_le t
  have e1 : (256 * t + c + 1 - 1) / 256 = t := by omega
  have e2 : (256 * t + c + 1 - 1) % 256 = c := by omega
  have hy : 1 ≤ 256 * t + c + 1 ∧ (256 * t + c + 1 - 1) % 256 < cod ((256 * t + c + 1 - 1) / 256) := by rw [e1, e2]; exact ⟨by omega, h2⟩
  refine ⟨?_, ?_, ?_⟩
  · simp only [prT]; rw [if_pos hy, e1]
  · simp only [prC]; rw [if_pos hy, e2]
  · simp only [prOk]; exact decide_eq_true hy
/-- No pair before (t, c) leads to e. -/
structure Not (e : Int) (t : Int) : Prop where
  no : ∀ t' c' : Int, 0 ≤ t' → t' < t → 0 ≤ c' → c' < cod t' → 256 * t' + c' + 1 ≠ e
structure NotIn (e t c : Int) : Prop where
  no : ∀ c' : Int, 0 ≤ c' → c' < c → 256 * t + c' + 1 ≠ e
theorem pr_none {e : Int} (h : Not e 14) : prT e = 0 ∧ prC e = 0 ∧ prOk e = false := by
  have hn : ¬ (1 ≤ e ∧ (e - 1) % 256 < cod ((e - 1) / 256)) := by
    rintro ⟨h1, h2⟩
    have h3 := cod_in (t := (e - 1) / 256) (by omega)
    exact h.no ((e - 1) / 256) ((e - 1) % 256) h3.1 (by omega) (by omega) h2 (by omega)
  refine ⟨?_, ?_, ?_⟩
  · simp only [prT]; rw [if_neg hn]
  · simp only [prC]; rw [if_neg hn]
  · simp only [prOk]; exact decide_eq_false hn

set_option maxHeartbeats 1600000 in
set_option maxRecDepth 20000 in
theorem refPair_eq (e0 : Int) (w : World) : Calls Tryd.prog 9 #[.int .i64 e0] w fun e w' => e = .returned (.tuple #[.int .i64 (prT e0), .int .i64 (prC e0), .bool (prOk e0)]) ∧ Grew w w' := by
  go_enter Tryd.func9, Tryd.ntmps9
  go_wp2_with fail
  go_loopw [5] (fun i wr => ∃ t : Nat, t ≤ 14 ∧ i = .int .i64 t ∧ Not e0 t ∧ Grew w wr) (fun i _ => (14 - intOf i).toNat)
  case atStart => exact ⟨0, by omega, rfl, ⟨fun t' c' h0 h1 => by omega⟩, Ext.refl _ _⟩
  case round =>
    obtain ⟨t, ht, rfl, hno, hX⟩ := hrel
    obtain ⟨wA, hwA⟩ : ∃ x, x = wr := ⟨_, rfl⟩
    subst hwA
    by_cases ht14 : t < 14
    · have ht14' : (t : Int) < 14 := by omega
      have hcl := cod_le t
      generalize hcd : cod t = cd at *
      have hcd' : Not e0 t → NotIn e0 t cd → Not e0 ((t : Int) + 1) := fun h1 h2 => ⟨fun t' c' a b c d => by
        by_cases hb : t' < t
        · exact h1.no t' c' a hb c d
        · have : t' = (t : Int) := by omega
          subst this
          exact h2.no c' c (by rw [← hcd]; exact d)⟩
      have hpo : ∀ c : Nat, (c : Int) < cd → prT (256 * t + c + 1) = t ∧ prC (256 * t + c + 1) = c ∧ prOk (256 * t + c + 1) = true := fun c h => pr_of (by omega) (by omega) (by rw [hcd]; exact h)
      go_wp2_with fail
      go_loopw [6] (fun i wr => ∃ c : Nat, (c : Int) ≤ cd ∧ i = .int .i64 c ∧ NotIn e0 t c ∧ Grew w wr) (fun i _ => (cd - intOf i).toNat)
      case atStart => exact ⟨0, by simpa using hcl.1, rfl, ⟨fun c' h0 h1 => by omega⟩, hX⟩
      case round =>
        obtain ⟨c, hc, rfl, hni, hX2⟩ := hrel
        have hcodes := refCodes_eq (t : Int) wr
        rw [hcd] at hcodes
        clear hcd
        by_cases hcc : (c : Int) < cd
        · go_wp2_with fail
          go_at_call 11
          refine hcodes.mono ?_
          rintro e w3 ⟨rfl, hX3⟩
          by_cases heq : 256 * (t : Int) + c + 1 = e0
          · obtain ⟨p1, p2, p3⟩ := hpo c hcc
            rw [heq] at p1 p2 p3
            clear hcodes hpo hcd'
            have hbb : ((256 * (t : Int) + c + 1) == e0) = true := by simp [heq]
            go_wp2_with fail
            refine bodyPost_ret ?_ rfl ⟨by rw [p1, p2, p3], hX2.trans hX3⟩
            simp [results, Tryd.results9, go_sem]
          · have hbb : ((256 * (t : Int) + c + 1) == e0) = false := by simp [heq]
            have hni' : NotIn e0 t ((c : Int) + 1) := ⟨fun c' a b => by
              by_cases hb : c' < c
              · exact hni.no c' a hb
              · have : c' = (c : Int) := by omega
                subst this; exact heq⟩
            clear hcodes hpo hcd' heq
            go_wp2_with fail
            go_roundw
            case rel => exact ⟨c + 1, by omega, by go_num, by simpa using hni', hX2.trans hX3⟩
            case measure => simp [intOf]; omega
        · have hce : (c : Int) = cd := by omega
          have hnn := hcd' hno (by rw [← hce]; exact hni)
          go_wp2_with fail
          go_at_call 11
          refine hcodes.mono ?_
          rintro e w3 ⟨rfl, hX3⟩
          clear hcodes hpo hcd'
          go_wp2_with fail
          go_roundw
          case rel => exact ⟨t + 1, by omega, by go_num, by simpa using hnn, hX2.trans hX3⟩
          case measure => simp [intOf]; omega
    · have hte : t = 14 := by omega
      subst hte
      obtain ⟨p1, p2, p3⟩ := pr_none hno
      go_wp2_with fail
      refine bodyPost_ret ?_ rfl ⟨by rw [p1, p2, p3], hX⟩
      simp [results, Tryd.results9, go_sem]
end Go.Proofs.YtfdgflpkdidooaaDoor
