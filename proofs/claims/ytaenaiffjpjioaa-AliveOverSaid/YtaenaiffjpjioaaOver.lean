/- The walk over AliveOver: it answers true, and old memory is as it was. -/
import Derived.Test.YtaenaiffjpjioaaSure
namespace Go.Proofs.Ytaenaiffjpjioaa
open Go.RowKit
namespace Alive

set_option maxHeartbeats 1600000 in
theorem over_any (ask dead : Int) (bl off n cap : Nat) (l : List Bool) (w : World) (ha : 0 ≤ ask) (ha' : ask < 256) (hd : 0 ≤ dead) (hd' : dead < 256) (hbl : n ≠ 0 → bl < w.heap.size)
    (hc : ∀ k, k < n → w.cell? ⟨bl, off + k, none⟩ = some (.bool (l.getD k false))) :
    Calls Try.prog 3 #[.int .u8 ask, .int .u8 dead, .slice (some ⟨bl, off, none⟩) n cap] w fun e w' => e = .returned (.bool true) ∧ Below w.heap.size w w' := by
  by_cases hn : 600 < n
  · go_enter Try.func3, Try.ntmps3
    go_wp2_with fail
    go_at_call 6
    refine (sure_any _).mono ?_
    rintro e w3 ⟨rfl, x3⟩
    go_wp2
    go_ret
    exact ⟨rfl, x3⟩
  · go_enter Try.func3, Try.ntmps3
    go_wp2_with fail
    have b1 : 1 ≤ 1 + ask % 20 := by omega
    have b2 : 1 + ask % 20 ≤ 20 := by omega
    have b3 : 1 + ask % 20 + 1 + dead % 40 ≤ 500 := by omega
    have b4 : 1 + ask % 20 < 1 + ask % 20 + 1 + dead % 40 := by omega
    generalize 1 + ask % 20 + 1 + dead % 40 = d at *
    generalize 1 + ask % 20 + 1 = a1 at *
    generalize 1 + ask % 20 = a at *
    go_at_call 7
    refine (new_ok a d _ (by omega) (by omega) (by omega) (by omega)).mono ?_
    rintro e w1 ⟨rfl, h1, x1⟩
    have hsz := x1.size
    go_wp2_with fail
    go_loopw [10, 11, 12] (fun r o i wr => ∃ (k : Nat) (s run : Int) (ov : Bool), k ≤ n ∧ i = .int .i64 k ∧ r = .int .i64 run ∧ o = .bool ov ∧ 0 ≤ run ∧ run ≤ k ∧ ((ov = true ∧ s = d) ∨ (ov = false ∧ s < d ∧ s = run)) ∧ Is wr w.heap.size a d s ∧ Ext (fun k => k = w.heap.size) w1 wr)
      (fun _ _ i _ => (n - intOf i).toNat)
    case atStart => exact ⟨0, 0, 0, false, by omega, rfl, rfl, rfl, by omega, by omega, .inr ⟨rfl, by omega, rfl⟩, h1, Ext.refl _ _⟩
    case round =>
      obtain ⟨k, s, run, ov, hk, rfl, rfl, rfl, hr0, hrk, hst, hi, hx⟩ := hrel
      by_cases hkn : k < n
      · have hb := hbl (by omega)
        have hcx : wr.cell? ⟨bl, off + k, none⟩ = some (.bool (l.getD k false)) := (hx.cell (p := ⟨bl, off + k, none⟩) (by have := hsz; simp; omega) (by simp; omega)).trans ((x1.cell (p := ⟨bl, off + k, none⟩) hb (by simp)).trans (hc k hkn))
        generalize l.getD k false = v at hcx
        cases v with
        | true =>
          rcases hst with ⟨rfl, rfl⟩ | ⟨rfl, hsd, rfl⟩
          · go_wp2_with fail
            go_at_call 8
            refine (heard_any w.heap.size a s s _ hi (by omega)).mono ?_
            rintro e w2 ⟨rfl, h2, x2⟩
            simp only [if_true] at h2
            go_wp2_with fail
            go_at_call 10
            refine (over_some w.heap.size a s s _ h2 (by simp; omega)).mono ?_
            rintro e w3 ⟨rfl, n3, rfl⟩
            go_wp2
            go_roundw
            case rel => exact ⟨k + 1, s, 0, true, by omega, by go_num, by first | rfl | go_num, by first | rfl | (simp; omega), by omega, by omega, .inl ⟨rfl, rfl⟩, h2.drewN n3, (hx.trans x2).drewN n3⟩
            case measure => simp [intOf]; omega
          · go_wp2_with fail
            go_at_call 8
            refine (heard_any w.heap.size a d s _ hi (by omega)).mono ?_
            rintro e w2 ⟨rfl, h2, x2⟩
            rw [if_neg (by omega)] at h2
            have hne : ((0 : Int) == d) = false := by simp; omega
            go_wp2_with fail
            go_at_call 10
            refine (over_some w.heap.size a d 0 _ h2 (by simp; omega)).mono ?_
            rintro e w3 ⟨rfl, n3, rfl⟩
            go_wp2
            go_roundw
            case rel => exact ⟨k + 1, 0, 0, false, by omega, by go_num, by first | rfl | go_num, by first | rfl | (simp; omega), by omega, by omega, .inr ⟨rfl, by omega, rfl⟩, h2.drewN n3, (hx.trans x2).drewN n3⟩
            case measure => simp [intOf]; omega
        | false =>
          rcases hst with ⟨rfl, rfl⟩ | ⟨rfl, hsd, rfl⟩
          · have e1 : step s s = s := by simp [step]
            have e2 : how a s s = 2 := by simp [how]
            go_wp2_with fail
            go_at_call 9
            refine (tick_is w.heap.size a s s s 2 _ hi (by omega) (by omega) (by omega) (by omega) e1 e2).mono ?_
            rintro e w2 ⟨rfl, h2, x2⟩
            clear e1 e2
            skip
            go_wp2_with fail
            go_at_call 10
            refine (over_some w.heap.size a s s _ h2 (by simp; omega)).mono ?_
            rintro e w3 ⟨rfl, n3, rfl⟩
            go_wp2
            go_roundw
            case rel => exact ⟨k + 1, s, (run + 1), true, by omega, by go_num, by first | rfl | go_num, by first | rfl | (simp; omega), by omega, by omega, .inl ⟨rfl, rfl⟩, h2.drewN n3, (hx.trans x2).drewN n3⟩
            case measure => simp [intOf]; omega
          · by_cases hs1 : s + 1 = d
            · have e1 : step d s = d := by simp only [step]; split <;> omega
              have e2 : how a d d = 2 := by simp [how]
              go_wp2_with fail
              go_at_call 9
              refine (tick_is w.heap.size a d s d 2 _ hi (by omega) (by omega) (by omega) (by omega) e1 e2).mono ?_
              rintro e w2 ⟨rfl, h2, x2⟩
              clear e1 e2
              skip
              go_wp2_with fail
              go_at_call 10
              refine (over_some w.heap.size a d d _ h2 (by simp; omega)).mono ?_
              rintro e w3 ⟨rfl, n3, rfl⟩
              go_wp2
              go_roundw
              case rel => exact ⟨k + 1, d, (s + 1), true, by omega, by go_num, by first | rfl | go_num, by first | rfl | (simp; omega), by omega, by omega, .inl ⟨rfl, rfl⟩, h2.drewN n3, (hx.trans x2).drewN n3⟩
              case measure => simp [intOf]; omega
            · have e1 : step d s = s + 1 := by simp only [step]; split <;> omega
              have hne : (s + 1 == d) = false := by simp; omega
              by_cases hm : (s + 1) % a = 0
              · have e2 : how a d (s + 1) = 1 := by simp [how, hm]; omega
                go_wp2_with fail
                go_at_call 9
                refine (tick_is w.heap.size a d s (s + 1) 1 _ hi (by omega) (by omega) (by omega) (by omega) e1 e2).mono ?_
                rintro e w2 ⟨rfl, h2, x2⟩
                clear e1 e2
                skip
                go_wp2_with fail
                go_at_call 10
                refine (over_some w.heap.size a d (s + 1) _ h2 (by simp; omega)).mono ?_
                rintro e w3 ⟨rfl, n3, rfl⟩
                go_wp2
                go_roundw
                case rel => exact ⟨k + 1, (s + 1), (s + 1), false, by omega, by go_num, by first | rfl | go_num, by first | rfl | (simp; omega), by omega, by omega, .inr ⟨rfl, by omega, rfl⟩, h2.drewN n3, (hx.trans x2).drewN n3⟩
                case measure => simp [intOf]; omega
              · have e2 : how a d (s + 1) = 0 := by simp [how, hm]; omega
                go_wp2_with fail
                go_at_call 9
                refine (tick_is w.heap.size a d s (s + 1) 0 _ hi (by omega) (by omega) (by omega) (by omega) e1 e2).mono ?_
                rintro e w2 ⟨rfl, h2, x2⟩
                clear e1 e2
                skip
                go_wp2_with fail
                go_at_call 10
                refine (over_some w.heap.size a d (s + 1) _ h2 (by simp; omega)).mono ?_
                rintro e w3 ⟨rfl, n3, rfl⟩
                go_wp2
                go_roundw
                case rel => exact ⟨k + 1, (s + 1), (s + 1), false, by omega, by go_num, by first | rfl | go_num, by first | rfl | (simp; omega), by omega, by omega, .inr ⟨rfl, by omega, rfl⟩, h2.drewN n3, (hx.trans x2).drewN n3⟩
                case measure => simp [intOf]; omega
      · go_wp2_with fail
        go_at_call 6
        refine (sure_any _).mono ?_
        rintro e w3 ⟨rfl, x3⟩
        go_wp2
        go_ret
        refine ⟨rfl, ?_⟩
        have x1' : Ext (fun k => k = w.heap.size) w w1 := x1.mono (fun _ _ h => h.elim)
        have hx' := x1'.trans hx
        have hs := hx'.size
        exact (hx'.below (Nat.le_refl _) (fun k hk e => by omega)).trans (x3.mono hs)

set_option maxHeartbeats 1600000 in
theorem over_nilS (ask dead : Int) (pp : Option Addr) (cap : Nat) (w : World) (ha : 0 ≤ ask) (ha' : ask < 256) (hd : 0 ≤ dead) (hd' : dead < 256) :
    Calls Try.prog 3 #[.int .u8 ask, .int .u8 dead, .slice pp 0 cap] w fun e w' => e = .returned (.bool true) ∧ Below w.heap.size w w' := by
  go_enter Try.func3, Try.ntmps3
  go_wp2_with fail
  have b1 : 1 ≤ 1 + ask % 20 := by omega
  have b2 : 1 + ask % 20 ≤ 20 := by omega
  have b3 : 1 + ask % 20 + 1 + dead % 40 ≤ 500 := by omega
  have b4 : 1 + ask % 20 < 1 + ask % 20 + 1 + dead % 40 := by omega
  generalize 1 + ask % 20 + 1 + dead % 40 = d at *
  generalize 1 + ask % 20 + 1 = a1 at *
  generalize 1 + ask % 20 = a at *
  go_at_call 7
  refine (new_ok a d _ (by omega) (by omega) (by omega) (by omega)).mono ?_
  rintro e w1 ⟨rfl, h1, x1⟩
  have hsz := x1.size
  go_wp2_with fail
  go_loopw [10, 11, 12] (fun r o i wr => i = .int .i64 0 ∧ wr = w1) (fun _ _ _ _ => 0)
  case atStart => exact ⟨rfl, rfl⟩
  case round =>
    obtain ⟨rfl, rfl⟩ := hrel
    go_wp2_with fail
    go_at_call 6
    refine (sure_any _).mono ?_
    rintro e w3 ⟨rfl, x3⟩
    go_wp2
    go_ret
    exact ⟨rfl, (x1.below (Nat.le_refl _) (fun _ _ h => h)).trans (x3.mono hsz)⟩
end Alive
end Go.Proofs.Ytaenaiffjpjioaa
