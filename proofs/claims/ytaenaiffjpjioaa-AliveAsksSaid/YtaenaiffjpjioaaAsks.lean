/- The walk over AliveAsks: it answers true, and old memory is as it was. -/
import Derived.Test.YtaenaiffjpjioaaSure
namespace Go.Proofs.Ytaenaiffjpjioaa
open Go.RowKit
namespace Alive

/-- How many there are behind i ticks without a word. -/
def low (i d : Int) : Int := if i ≤ d then i else d
theorem low_step (i d : Int) : step d (low (i - 1) d) = low i d := by
  unfold step low; split <;> split <;> (try split) <;> omega

set_option maxHeartbeats 1600000 in
theorem asks_any (ask dead : Int) (w : World) (ha : 0 ≤ ask) (ha' : ask < 256) (hd : 0 ≤ dead) (hd' : dead < 256) :
    Calls Try.prog 4 #[.int .u8 ask, .int .u8 dead] w fun e w' => e = .returned (.bool true) ∧ Below w.heap.size w w' := by
  go_enter Try.func4, Try.ntmps4
  go_wp2_with fail
  have b1 : 1 ≤ 1 + ask % 20 := by omega
  have b2 : 1 + ask % 20 ≤ 20 := by omega
  have b3 : 1 + ask % 20 + 1 + dead ≤ 500 := by omega
  have b4 : 1 + ask % 20 < 1 + ask % 20 + 1 + dead := by omega
  generalize 1 + ask % 20 + 1 + dead = d at *
  generalize 1 + ask % 20 + 1 = a1 at *
  generalize 1 + ask % 20 = a at *
  go_at_call 7
  refine (new_ok a d _ (by omega) (by omega) (by omega) (by omega)).mono ?_
  rintro e w1 ⟨rfl, h1, x1⟩
  have hsz := x1.size
  go_wp2_with fail
  go_loopw [8] (fun i wr => ∃ k : Int, 1 ≤ k ∧ k ≤ d + 4 ∧ i = .int .i64 k ∧ Is wr w.heap.size a d (low (k - 1) d) ∧ Ext (fun k => k = w.heap.size) w1 wr)
    (fun i _ => (d + 4 - intOf i).toNat)
  case atStart => exact ⟨1, by omega, by omega, rfl, (by simp only [low]; rw [if_pos (by omega)]; exact h1), Ext.refl _ _⟩
  case round =>
    obtain ⟨k, hk1, hk2, rfl, hi, hx⟩ := hrel
    have hlow : low (k - 1) d ≤ d ∧ 0 ≤ low (k - 1) d := by unfold low; split <;> omega
    by_cases hkd : k ≤ d + 3
    · by_cases c1 : k < d
      · have e1 : step d (low (k - 1) d) = k := by rw [low_step]; simp only [low]; rw [if_pos (by omega)]
        by_cases c2 : k % a = 0
        · have c2' : (k % a == 0) = true := by simp [c2]
          have e2 : how a d k = 1 := by simp [how, c2]; omega
          go_wp2_with fail
          go_at_call 9
          refine (tick_is w.heap.size a d _ k 1 _ hi (by omega) (by omega) (by omega) (by omega) e1 e2).mono ?_
          rintro e w2 ⟨rfl, h2, x2⟩
          clear e1 e2 c2
          go_wp2_with fail
          go_at_call 11
          refine (since_some w.heap.size a d k _ h2 (by simp; omega)).mono ?_
          rintro e w3 ⟨rfl, rfl⟩
          go_wp2
          go_roundw
          case rel => exact ⟨k + 1, by omega, by omega, rfl, by rw [show k + 1 - 1 = k by omega]; simp only [low]; rw [if_pos (by omega)]; exact h2, hx.trans x2⟩
          case measure => simp [intOf]; omega
        · have c2' : (k % a == 0) = false := by simp [c2]
          have e2 : how a d k = 0 := by simp [how, c2]; omega
          go_wp2_with fail
          go_at_call 9
          refine (tick_is w.heap.size a d _ k 0 _ hi (by omega) (by omega) (by omega) (by omega) e1 e2).mono ?_
          rintro e w2 ⟨rfl, h2, x2⟩
          clear e1 e2 c2
          go_wp2_with fail
          go_at_call 11
          refine (since_some w.heap.size a d k _ h2 (by simp; omega)).mono ?_
          rintro e w3 ⟨rfl, rfl⟩
          go_wp2
          go_roundw
          case rel => exact ⟨k + 1, by omega, by omega, rfl, by rw [show k + 1 - 1 = k by omega]; simp only [low]; rw [if_pos (by omega)]; exact h2, hx.trans x2⟩
          case measure => simp [intOf]; omega
      · have e1 : step d (low (k - 1) d) = d := by rw [low_step]; simp only [low]; split <;> omega
        by_cases c2 : k % a = 0
        · have c2' : (k % a == 0) = true := by simp [c2]
          have e2 : how a d d = 2 := by simp [how]
          go_wp2_with fail
          go_at_call 9
          refine (tick_is w.heap.size a d _ d 2 _ hi (by omega) (by omega) (by omega) (by omega) e1 e2).mono ?_
          rintro e w2 ⟨rfl, h2, x2⟩
          clear e1 e2 c2
          go_wp2_with fail
          go_at_call 11
          refine (since_some w.heap.size a d d _ h2 (by simp; omega)).mono ?_
          rintro e w3 ⟨rfl, rfl⟩
          go_wp2
          go_roundw
          case rel => exact ⟨k + 1, by omega, by omega, rfl, by rw [show k + 1 - 1 = k by omega]; simp only [low]; split <;> first | exact h2 | (rw [show k = d by omega]; exact h2), hx.trans x2⟩
          case measure => simp [intOf]; omega
        · have c2' : (k % a == 0) = false := by simp [c2]
          have e2 : how a d d = 2 := by simp [how]
          go_wp2_with fail
          go_at_call 9
          refine (tick_is w.heap.size a d _ d 2 _ hi (by omega) (by omega) (by omega) (by omega) e1 e2).mono ?_
          rintro e w2 ⟨rfl, h2, x2⟩
          clear e1 e2 c2
          go_wp2_with fail
          go_at_call 11
          refine (since_some w.heap.size a d d _ h2 (by simp; omega)).mono ?_
          rintro e w3 ⟨rfl, rfl⟩
          go_wp2
          go_roundw
          case rel => exact ⟨k + 1, by omega, by omega, rfl, by rw [show k + 1 - 1 = k by omega]; simp only [low]; split <;> first | exact h2 | (rw [show k = d by omega]; exact h2), hx.trans x2⟩
          case measure => simp [intOf]; omega
    · go_wp2_with fail
      go_at_call 6
      refine (sure_any _).mono ?_
      rintro e w3 ⟨rfl, x3⟩
      go_wp2
      go_ret
      refine ⟨rfl, ?_⟩
      have x1' : Ext (fun k => k = w.heap.size) w w1 := x1.mono (fun _ _ h => h.elim)
      have hx' := x1'.trans hx
      have hs := hx'.size
      exact (hx'.below (Nat.le_refl _) (fun k hk e => by omega)).trans (x3.mono hs)
end Alive
end Go.Proofs.Ytaenaiffjpjioaa
