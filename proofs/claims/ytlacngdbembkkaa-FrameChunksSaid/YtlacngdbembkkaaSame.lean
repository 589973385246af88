/- Same; Value; the document's Split. -/
import Derived.Test.YtlacngdbembkkaaFew
namespace Go.Proofs.Ytlacngdbembkkaa
open Go.RowKit

theorem Bs.drewN {w : World} {Av : Nat → Prop} {v : Value} {l : List Int} (h : Bs w Av v l) (n : Nat) : Bs (w.drewN n) Av v l := h.keep ((Ext.refl (fun _ => False) w).drewN n) (fun _ _ h => h.elim)
theorem Bs.drew {w : World} {Av : Nat → Prop} {v : Value} {l : List Int} (h : Bs w Av v l) : Bs w.drew Av v l := h.keep ((Ext.refl (fun _ => False) w).drew) (fun _ _ h => h.elim)
theorem Fs.drewN {w : World} {Av : Nat → Prop} {v : Value} {l : List (List Int)} (h : Fs w Av v l) (n : Nat) : Fs (w.drewN n) Av v l := h.keep ((Ext.refl (fun _ => False) w).drewN n) (fun _ _ h => h.elim)
theorem drewN_add (w : World) (a b : Nat) : (w.drewN a).drewN b = w.drewN (a + b) := by simp [World.drewN, Nat.add_assoc]

set_option maxHeartbeats 1600000 in
theorem same_ok {w : World} {Av Av' : Nat → Prop} {va vb : Value} {la lb : List (List Int)} (ha : Fs w Av va la) (hb : Fs w Av' vb lb) (hn : la.length ≤ 1000000) (hl : ∀ x ∈ la, x.length ≤ 1000000) :
    Calls Try.prog 12 #[va, vb] w fun e w' => e = .returned (.bool (decide (la = lb))) ∧ ∃ n, w' = w.drewN n := by
  have ha0 := ha
  have hb0 := hb
  obtain ⟨pa, ca, rfl, _, ha⟩ := ha
  obtain ⟨pb, cb, rfl, _, hb⟩ := hb
  by_cases hll : la.length = lb.length
  · have hl' : ((la.length : Int) == (lb.length : Int)) = true := by simp [hll]
    go_enter Try.func12, Try.ntmps12
    go_wp2_with fail
    go_loopw [5] (fun i wr => ∃ k m : Nat, k ≤ la.length ∧ i = .int .i64 k ∧ (∀ j, j < k → la[j]? = lb[j]?) ∧ wr = w.drewN m) (fun i _ => (la.length - intOf i).toNat)
    case atStart => exact ⟨0, 0, by omega, rfl, fun j hj => by omega, rfl⟩
    case round =>
      obtain ⟨k, m, hk, rfl, heq, rfl⟩ := hrel
      by_cases hkn : k < la.length
      · obtain ⟨ba, oa, rfl, _, _, ga⟩ := ha (by intro h; simp [h] at hkn)
        obtain ⟨bb, ob, rfl, _, _, gb⟩ := hb (by intro h; rw [h] at hll; simp at hll; simp [hll] at hkn)
        obtain ⟨x, hx⟩ : ∃ x, la[k]? = some x := ⟨_, List.getElem?_eq_getElem hkn⟩
        obtain ⟨y, hy⟩ : ∃ y, lb[k]? = some y := ⟨_, List.getElem?_eq_getElem (hll ▸ hkn)⟩
        obtain ⟨u, hu, hub⟩ := ga k x hx
        obtain ⟨v, hv, hvb⟩ := gb k y hy
        have hxl := hl x (List.mem_of_getElem? hx)
        obtain ⟨pu, cu, rfl, hcu, hcu2⟩ := hub
        obtain ⟨pv, cv, rfl, hcv, hcv2⟩ := hvb
        have hub : Bs w Av (.slice pu x.length cu) x := ⟨pu, cu, rfl, hcu, hcu2⟩
        have hvb : Bs w Av' (.slice pv y.length cv) y := ⟨pv, cv, rfl, hcv, hcv2⟩
        have hkb : (k : Int) < (lb.length : Int) := by omega
        have hka : (k : Int) < (la.length : Int) := by omega
        clear ga gb hcu2 hcv2 ha hb hcu hcv
        go_wp2_with fail
        go_quiet (first | (go_at_call 18; refine (bytes_eq _ _ x y _ _ _ (hub.drewN _) (hvb.drewN _) hxl).mono ?_; rintro e w' ⟨rfl, m', rfl⟩; exact ⟨rfl, _, (drewN_add _ _ _).trans (congrArg w.drewN (Nat.add_assoc _ _ _))⟩))
        by_cases hxy : x = y
        · have hh : la[k]? = lb[k]? := by rw [hx, hy, hxy]
          have hd : decide (x = y) = true := by simp [hxy]
          rw [hd]
          go_wp2
          go_roundw
          case rel => exact ⟨k + 1, _, by omega, by go_num, fun j hj => by rcases Nat.lt_succ_iff_lt_or_eq.1 hj with h | rfl; exact heq j h; exact hh, rfl⟩
          case measure => simp [intOf]; omega
        · have hne : la ≠ lb := by
            rintro rfl
            exact hxy (Option.some.inj (hx.symm.trans hy))
          have hd : decide (x = y) = false := by simp [hxy]
          rw [hd]
          go_wp2
          go_ret
          exact ⟨by simp [hne], m + nq, by simp [World.drewN, Nat.add_assoc]⟩
      · have he : la = lb := by
          apply List.ext_getElem? 
          intro j
          by_cases hj : j < k
          · exact heq j hj
          · rw [List.getElem?_eq_none (by omega), List.getElem?_eq_none (by omega)]
        go_wp2
        go_ret
        exact ⟨by simp [he], _, rfl⟩
  · have hl' : ((la.length : Int) == (lb.length : Int)) = false := by simp; omega
    have hne : la ≠ lb := by rintro rfl; exact hll rfl
    go_enter Try.func12, Try.ntmps12
    go_wp2
    go_ret
    exact ⟨by simp [hne], 0, rfl⟩

theorem Bs.belowA {w W : World} {Av : Nat → Prop} {v : Value} {l : List Int} (h : Bs w Av v l) (hb : Below w.heap.size w W) : Bs W Av v l := by
  obtain ⟨p, cap, rfl, hcp, h⟩ := h
  refine ⟨p, cap, rfl, hcp, fun hl => ?_⟩
  obtain ⟨b, off, rfl, h1, h2, h3⟩ := h hl
  exact ⟨b, off, rfl, h1, Nat.lt_of_lt_of_le h2 hb.size, fun j x e => (World.cell?_of_block (hb.block b h2)).trans (h3 j x e)⟩

set_option maxHeartbeats 1600000 in
theorem value_ok (w : World) (b off cap : Nat) (x y : Int) (hx : w.cell? ⟨b, off, none⟩ = some (.int .u8 x)) (hy : w.cell? ⟨b, off + 1, none⟩ = some (.int .u8 y)) (x0 : 0 ≤ x) (x1 : x ≤ 255) (y0 : 0 ≤ y) (y1 : y ≤ 255) :
    Calls Try.prog 25 #[.slice (some ⟨b, off, none⟩) 2 cap] w fun e w' => e = .returned (.int .u64 (x * 256 + y)) ∧ w' = w := by
  go_enter Try.func25, Try.ntmps25
  go_wp2_with fail
  go_loopw [3, 4] (fun nv i wr => ∃ k : Nat, k ≤ 2 ∧ i = .int .i64 k ∧ nv = .int .u64 (if k = 0 then 0 else if k = 1 then x else x * 256 + y) ∧ wr = w) (fun _ i _ => (2 - intOf i).toNat)
  case atStart => exact ⟨0, by omega, rfl, rfl, rfl⟩
  case round =>
    obtain ⟨k, hk, rfl, rfl, rfl⟩ := hrel
    rcases (by omega : k = 0 ∨ k = 1 ∨ k = 2) with rfl | rfl | rfl
    · simp only [if_true]
      go_wp2_with fail
      go_roundw
      case rel => exact ⟨1, by omega, rfl, by simp, trivial⟩
      case measure => simp [intOf]
    · simp only [show (1 : Nat) ≠ 0 by omega, if_false, if_true]
      go_wp2_with fail
      go_roundw
      case rel => exact ⟨2, by omega, rfl, by simp, trivial⟩
      case measure => simp [intOf]
    · simp only [show (2 : Nat) ≠ 0 by omega, show (2 : Nat) ≠ 1 by omega, if_false]
      go_wp2
      go_ret
      exact ⟨rfl, rfl⟩
end Go.Proofs.Ytlacngdbembkkaa
