/- The walk over AliveTicks: it answers true, and old memory is as it was. -/
import Derived.Test.YtaenaiffjpjioaaSure
namespace Go.Proofs.Ytaenaiffjpjioaa
open Go.RowKit
namespace Alive

/-- The record beside the watch. -/
structure XIs (w : World) (b : Nat) (ask dead since : Int) : Prop where
  c0 : w.cell? ⟨b, 0, none⟩ = some (.int .i64 ask)
  c1 : w.cell? ⟨b, 1, none⟩ = some (.int .i64 dead)
  c2 : w.cell? ⟨b, 2, none⟩ = some (.int .i64 since)
  f0 : w.frozen? ⟨b, 0, none⟩ = false
  f1 : w.frozen? ⟨b, 1, none⟩ = false
  f2 : w.frozen? ⟨b, 2, none⟩ = false
theorem lt_of_cell {w : World} {p : Addr} {v : Value} (h : w.cell? p = some v) : p.block < w.heap.size := by
  by_cases hb : p.block < w.heap.size
  · exact hb
  · simp only [World.cell?] at h
    rw [Array.getElem?_eq_none (by omega)] at h
    cases h
theorem XIs.keep {w w' : World} {b ask dead since} (h : XIs w b ask dead since) {S : Nat → Prop} (hx : Ext S w w') (hs : ¬ S b) : XIs w' b ask dead since :=
  have hb := lt_of_cell h.c0
  ⟨(hx.cell (by exact hb) hs).trans h.c0, (hx.cell (by exact hb) hs).trans h.c1, (hx.cell (by exact hb) hs).trans h.c2, (hx.frozen (by exact hb) hs).trans h.f0, (hx.frozen (by exact hb) hs).trans h.f1, (hx.frozen (by exact hb) hs).trans h.f2⟩
theorem Is.keep {w w' : World} {b ask dead since} (h : Is w b ask dead since) {S : Nat → Prop} (hx : Ext S w w') (hs : ¬ S b) : Is w' b ask dead since :=
  have hb := lt_of_cell h.c0
  ⟨(hx.cell (by exact hb) hs).trans h.c0, (hx.cell (by exact hb) hs).trans h.c1, (hx.cell (by exact hb) hs).trans h.c2, (hx.frozen (by exact hb) hs).trans h.f2⟩
theorem xis_alloc (w : World) (a d s : Int) : XIs (w.alloc (.cells #[.int .i64 a, .int .i64 d, .int .i64 s] 30)) w.heap.size a d s := by
  refine ⟨?_, ?_, ?_, ?_, ?_, ?_⟩
  · rw [World.cell?_alloc_at _ _ _ _ rfl]; rfl
  · rw [World.cell?_alloc_at _ _ _ _ rfl]; rfl
  · rw [World.cell?_alloc_at _ _ _ _ rfl]; rfl
  · rw [World.frozen?_alloc_at _ _ _ _ rfl]
  · rw [World.frozen?_alloc_at _ _ _ _ rfl]
  · rw [World.frozen?_alloc_at _ _ _ _ rfl]

theorem XIs.set {w : World} {b ask dead since} (h : XIs w b ask dead since) (a d s : Int) : XIs (((w.setCell ⟨b, 0, none⟩ (.int .i64 a)).setCell ⟨b, 1, none⟩ (.int .i64 d)).setCell ⟨b, 2, none⟩ (.int .i64 s)) b a d s := by
  obtain ⟨c0, c1, c2, f0, f1, f2⟩ := h
  refine ⟨?_, ?_, ?_, ?_, ?_, ?_⟩
  · rw [World.cell?_setCell_other _ _ _ _ (by simp), World.cell?_setCell_other _ _ _ _ (by simp)]
    exact World.cell?_setCell_same' _ _ _ (by simp [c0])
  · rw [World.cell?_setCell_other _ _ _ _ (by simp)]
    exact World.cell?_setCell_same' _ _ _ (by rw [World.cell?_setCell_other _ _ _ _ (by simp)]; simp [c1])
  · exact World.cell?_setCell_same' _ _ _ (by rw [World.cell?_setCell_other _ _ _ _ (by simp), World.cell?_setCell_other _ _ _ _ (by simp)]; simp [c2])
  · simpa [World.frozen?_setCell] using f0
  · simpa [World.frozen?_setCell] using f1
  · simpa [World.frozen?_setCell] using f2
theorem XIs.ext {w : World} (b : Nat) (a d s : Int) : Ext (fun k => k = b) w (((w.setCell ⟨b, 0, none⟩ (.int .i64 a)).setCell ⟨b, 1, none⟩ (.int .i64 d)).setCell ⟨b, 2, none⟩ (.int .i64 s)) :=
  (((Ext.refl (fun k => k = b) w).setCell (p := ⟨b, 0, none⟩) (.inl rfl) _).setCell (p := ⟨b, 1, none⟩) (.inl rfl) _).setCell (p := ⟨b, 2, none⟩) (.inl rfl) _

theorem heard_to (b : Nat) (ask dead since s' : Int) (w : World) (h : Is w b ask dead since) (ha : 0 < ask) (e : (if since = dead then dead else 0) = s') :
    Calls Try.prog 8 #[.pointer (some ⟨b, 0, none⟩)] w fun e w' => e = .returned (.tuple #[]) ∧ Is w' b ask dead s' ∧ Ext (fun k => k = b) w w' := by
  subst e; exact heard_any b ask dead since w h ha
theorem rheard_to (ask dead since s' : Int) (w : World) (e : (if since < dead then 0 else since) = s') :
    Calls Try.prog 12 #[.agg #[.int .i64 ask, .int .i64 dead, .int .i64 since]] w fun e w' => e = .returned (.agg #[.int .i64 ask, .int .i64 dead, .int .i64 s']) ∧ Ext (fun _ => False) w w' := by
  subst e; exact rheard ask dead since w
theorem rtick_to (ask dead since s' r : Int) (w : World) (h0 : 0 < ask) (h1 : since ≤ dead) (h2 : 0 ≤ since) (h3 : dead ≤ 100000) (e1 : step dead since = s') (e2 : how ask dead s' = r) :
    Calls Try.prog 13 #[.agg #[.int .i64 ask, .int .i64 dead, .int .i64 since]] w fun e w' => e = .returned (.tuple #[.agg #[.int .i64 ask, .int .i64 dead, .int .i64 s'], .int .i64 r]) ∧ Ext (fun _ => False) w w' := by
  subst e1; subst e2; exact rtick ask dead since w h0 h1 h2 h3

set_option maxHeartbeats 1600000 in
theorem ticks_any (a d : Int) (bl off n cap : Nat) (l : List Bool) (w : World) (hbl : n ≠ 0 → bl < w.heap.size)
    (hc : ∀ k, k < n → w.cell? ⟨bl, off + k, none⟩ = some (.bool (l.getD k false))) :
    Calls Try.prog 5 #[.int .i64 a, .int .i64 d, .slice (some ⟨bl, off, none⟩) n cap] w fun e w' => e = .returned (.bool true) ∧ Below w.heap.size w w' := by
  by_cases hn : 300 < n
  · go_enter Try.func5, Try.ntmps5
    go_wp2_with fail
    go_at_call 6
    refine (sure_any _).mono ?_
    rintro e w3 ⟨rfl, x3⟩
    go_wp2
    go_ret
    exact ⟨rfl, x3⟩
  · by_cases hbad : a < 1 ∨ 1000 < a ∨ d ≤ a ∨ 100000 < d
    · go_enter Try.func5, Try.ntmps5
      go_wp2_with fail
      go_at_call 7
      refine (new_bad a d _ hbad).mono ?_
      rintro e w1 ⟨rfl, rfl⟩
      go_wp2_with (go_at_call 6; refine (sure_any _).mono ?_; rintro e w3 ⟨rfl, x3⟩)
      all_goals (go_ret; exact ⟨rfl, by assumption⟩)
    · go_enter Try.func5, Try.ntmps5
      go_wp2_with fail
      go_at_call 7
      refine (new_ok a d _ (by omega) (by omega) (by omega) (by omega)).mono ?_
      rintro e w1 ⟨rfl, h1, x1⟩
      have hsz := x1.size
      go_wp2_with fail
      have hx0 := xis_alloc w1 a d 0
      have hs1 : w.heap.size < w1.heap.size := lt_of_cell h1.c0
      have hI := h1.keep (((Ext.refl (fun _ => False) w1)).alloc (.cells #[.int .i64 a, .int .i64 d, .int .i64 0] 30)) (by simp)
      have hX : Ext (fun k => w.heap.size ≤ k) w (w1.alloc (.cells #[.int .i64 a, .int .i64 d, .int .i64 0] 30)) := (x1.mono (fun _ _ h => h.elim)).alloc _
      clear h1 x1
      generalize w1.alloc (.cells #[.int .i64 a, .int .i64 d, .int .i64 0] 30) = w2 at *
      generalize w1.heap.size = bx at *
      go_loopw [7, 9] (fun q i wr => ∃ (k qb : Nat) (s : Int), k ≤ n ∧ i = .int .i64 k ∧ q = .pointer (some ⟨qb, 0, none⟩) ∧ qb ≠ bx ∧ w.heap.size ≤ qb ∧ 0 ≤ s ∧ s ≤ d ∧ Is wr qb a d s ∧ XIs wr bx a d s ∧ Ext (fun k => w.heap.size ≤ k) w wr)
        (fun _ i _ => (n - intOf i).toNat)
      case atStart => exact ⟨0, w.heap.size, 0, by omega, rfl, rfl, by omega, by omega, by omega, by omega, hI, hx0, hX⟩
      case round =>
        clear hI hx0 hX
        obtain ⟨k, qb, s, hk, rfl, rfl, hqx, hqb, hs0, hsd, hi, hxi, hx⟩ := hrel
        by_cases hkn : k < n
        · have hb := hbl (by omega)
          have hcx : wr.cell? ⟨bl, off + k, none⟩ = some (.bool (l.getD k false)) := (hx.cell (p := ⟨bl, off + k, none⟩) hb (by simp; omega)).trans (hc k hkn)
          generalize l.getD k false = v at hcx
          cases v with
          | true =>
            obtain ⟨s', hA, hB, hs0', hsd'⟩ : ∃ s', (if s = d then d else 0) = s' ∧ (if s < d then 0 else s) = s' ∧ 0 ≤ s' ∧ s' ≤ d := by
              by_cases h : s = d
              · exact ⟨d, by simp [h], by rw [if_neg (by omega)]; exact h, by omega, by omega⟩
              · exact ⟨0, by simp [h], by rw [if_pos (by omega)], by omega, by omega⟩
            go_wp2_with fail
            go_at_call 8
            refine (heard_to qb a d s s' _ hi (by omega) hA).mono ?_
            rintro e w3 ⟨rfl, h3, x3⟩
            have hx3 := hxi.keep x3 (by omega)
            have g0 := hx3.c0
            have g1 := hx3.c1
            have g2 := hx3.c2
            clear hA
            have hBB := Lib.hid hB
            clear hB
            go_wp2_with fail
            go_at_call 12
            refine (rheard_to a d s s' _ hBB.out).mono ?_
            rintro e w4 ⟨rfl, x4⟩
            have hx4 := hx3.keep x4 (by simp)
            have h4 := h3.keep x4 (by simp)
            clear g0 g1 g2
            have g0 := hx4.c0
            have g1 := hx4.c1
            have g2 := hx4.c2
            have f0 := hx4.f0
            have f1 := hx4.f1
            have f2 := hx4.f2
            go_wp2_with fail
            have hx5 := hx4.set a d s'
            have x5 := XIs.ext (w := w4) bx a d s'
            clear g0 g1 g2 f0 f1 f2
            have h5 := h4.keep x5 (by omega)
            generalize (((w4.setCell ⟨bx, 0, none⟩ (.int .i64 a)).setCell ⟨bx, 1, none⟩ (.int .i64 d)).setCell ⟨bx, 2, none⟩ (.int .i64 s')) = w5 at *
            have x35 : Ext (fun k => w.heap.size ≤ k) w w5 := ((hx.trans (x3.mono (by rintro _ _ rfl; exact hqb))).trans (x4.mono (fun _ _ h => h.elim))).trans (x5.mono (by rintro _ _ rfl; exact hsz))
            have hha : (a == 0) = false := by simp; omega
            have g2 := hx5.c2
            go_quiet (first | (go_at_call 11; exact Calls.quiet_of_same (since_some qb a d s' _ (h5.drewN _) hha)) | (go_at_call 10; exact Calls.quiet_of (over_some qb a d s' _ (h5.drewN _) hha)))
            by_cases h7 : (k : Int) % 7 = 3
            · have h7' : ((k : Int) % 7 == 3) = true := by simp [h7]
              clear h7
              go_wp2_with fail
              go_at_call 14
              refine (clone_some qb a d s' _ (h5.drewN nq) hha).mono ?_
              rintro e w6 ⟨rfl, h6, x6⟩
              have q6 := (h5.drewN nq).keep x6 (by simp)
              have y6 := (hx5.keep ((Ext.refl (fun _ => False) w5).drewN nq) (by simp)).keep x6 (by simp)
              have z6 := x35.size
              have z7 : qb < w5.heap.size := lt_of_cell h5.c0
              have z8 : bx < w5.heap.size := lt_of_cell hx5.c0
              go_wp2_with fail
              go_at_call 9
              refine (tick_any qb a d s' _ q6 (by omega) hsd' hs0' (by omega)).mono ?_
              rintro e w7 ⟨rfl, h7, x7⟩
              go_wp2
              go_roundw
              case rel => exact ⟨k + 1, w5.heap.size, s', by omega, by go_num, rfl, by omega, by omega, hs0', hsd', h6.keep x7 (by simp; omega), y6.keep x7 (by omega), ((x35.drewN nq).trans (x6.mono (fun _ _ h => h.elim))).trans (x7.mono (by rintro _ _ rfl; exact hqb))⟩
              case measure => simp [intOf]; omega
            · have h7' : ((k : Int) % 7 == 3) = false := by simp [h7]
              clear h7
              go_wp2
              go_roundw
              case rel => exact ⟨k + 1, qb, s', by omega, by go_num, rfl, hqx, hqb, hs0', hsd', h5.drewN nq, hx5.keep ((Ext.refl (fun _ => False) w5).drewN nq) (by simp), x35.drewN nq⟩
              case measure => simp [intOf]; omega
          | false =>
            obtain ⟨s', hA, hs0', hsd'⟩ : ∃ s', step d s = s' ∧ 0 ≤ s' ∧ s' ≤ d := ⟨_, rfl, by unfold step; split <;> omega, by unfold step; split <;> omega⟩
            obtain ⟨r, hR⟩ : ∃ r, how a d s' = r := ⟨_, rfl⟩
            have g0 := hxi.c0
            have g1 := hxi.c1
            have g2 := hxi.c2
            go_wp2_with fail
            go_at_call 13
            refine (rtick_to a d s s' r _ (by omega) (by omega) (by omega) (by omega) hA hR).mono ?_
            rintro e w4 ⟨rfl, x4⟩
            have hx4 := hxi.keep x4 (by simp)
            have h4 := hi.keep x4 (by simp)
            have zz : bx < w4.heap.size := lt_of_cell hx4.c0
            clear g0 g1 g2
            have g0 := hx4.c0
            have g1 := hx4.c1
            have g2 := hx4.c2
            have f0 := hx4.f0
            have f1 := hx4.f1
            have f2 := hx4.f2
            go_wp2_with fail
            have hxa := hx4.set a d s'
            have xa := XIs.ext (w := w4) bx a d s'
            clear g0 g1 g2 f0 f1 f2
            have ha4 := h4.keep xa (by omega)
            generalize (((w4.setCell ⟨bx, 0, none⟩ (.int .i64 a)).setCell ⟨bx, 1, none⟩ (.int .i64 d)).setCell ⟨bx, 2, none⟩ (.int .i64 s')) = wa at *
            have xb := (Ext.refl (fun _ => False) wa).alloc (.cells #[.int .i64 a, .int .i64 d, .int .i64 s'] 30)
            have hxb := hxa.keep xb (by simp)
            have hb4 := ha4.keep xb (by simp)
            generalize wa.alloc (.cells #[.int .i64 a, .int .i64 d, .int .i64 s'] 30) = wb at *
            go_at_call 9
            refine (tick_is qb a d s s' r _ hb4 (by omega) hsd hs0 (by omega) hA hR).mono ?_
            rintro e w5 ⟨rfl, h5, x5⟩
            have hx5 := hxb.keep x5 (by omega)
            have x35 : Ext (fun k => w.heap.size ≤ k) w w5 := (((hx.trans (x4.mono (fun _ _ h => h.elim))).trans (xa.mono (by rintro _ _ rfl; exact hsz))).trans (xb.mono (fun _ _ h => h.elim))).trans (x5.mono (by rintro _ _ rfl; exact hqb))
            have hha : (a == 0) = false := by simp; omega
            have g2 := hx5.c2
            clear hA hR
            go_wp2_with fail
            go_quiet (first | (go_at_call 11; exact Calls.quiet_of_same (since_some qb a d s' _ (h5.drewN _) hha)) | (go_at_call 10; exact Calls.quiet_of (over_some qb a d s' _ (h5.drewN _) hha)))
            by_cases h7 : (k : Int) % 7 = 3
            · have h7' : ((k : Int) % 7 == 3) = true := by simp [h7]
              clear h7
              go_wp2_with fail
              go_at_call 14
              refine (clone_some qb a d s' _ (h5.drewN nq) hha).mono ?_
              rintro e w6 ⟨rfl, h6, x6⟩
              have q6 := (h5.drewN nq).keep x6 (by simp)
              have y6 := (hx5.keep ((Ext.refl (fun _ => False) w5).drewN nq) (by simp)).keep x6 (by simp)
              have z6 := x35.size
              have z7 : qb < w5.heap.size := lt_of_cell h5.c0
              have z8 : bx < w5.heap.size := lt_of_cell hx5.c0
              go_wp2_with fail
              go_at_call 9
              refine (tick_any qb a d s' _ q6 (by omega) hsd' hs0' (by omega)).mono ?_
              rintro e w7 ⟨rfl, h7, x7⟩
              go_wp2
              go_roundw
              case rel => exact ⟨k + 1, w5.heap.size, s', by omega, by go_num, rfl, by omega, by omega, hs0', hsd', h6.keep x7 (by simp; omega), y6.keep x7 (by omega), ((x35.drewN nq).trans (x6.mono (fun _ _ h => h.elim))).trans (x7.mono (by rintro _ _ rfl; exact hqb))⟩
              case measure => simp [intOf]; omega
            · have h7' : ((k : Int) % 7 == 3) = false := by simp [h7]
              clear h7
              go_wp2
              go_roundw
              case rel => exact ⟨k + 1, qb, s', by omega, by go_num, rfl, hqx, hqb, hs0', hsd', h5.drewN nq, hx5.keep ((Ext.refl (fun _ => False) w5).drewN nq) (by simp), x35.drewN nq⟩
              case measure => simp [intOf]; omega
        · go_wp2_with fail
          go_at_call 6
          refine (sure_any _).mono ?_
          rintro e w3 ⟨rfl, x3⟩
          go_wp2
          go_ret
          refine ⟨rfl, ?_⟩
          have hs := hx.size
          exact (hx.below (Nat.le_refl _) (fun k hk e => by omega)).trans (x3.mono hs)

set_option maxHeartbeats 1600000 in
theorem ticks_nilS (a d : Int) (pp : Option Addr) (cap : Nat) (w : World) :
    Calls Try.prog 5 #[.int .i64 a, .int .i64 d, .slice pp 0 cap] w fun e w' => e = .returned (.bool true) ∧ Below w.heap.size w w' := by
  by_cases hbad : a < 1 ∨ 1000 < a ∨ d ≤ a ∨ 100000 < d
  · go_enter Try.func5, Try.ntmps5
    go_wp2_with fail
    go_at_call 7
    refine (new_bad a d _ hbad).mono ?_
    rintro e w1 ⟨rfl, rfl⟩
    go_wp2_with (go_at_call 6; refine (sure_any _).mono ?_; rintro e w3 ⟨rfl, x3⟩)
    all_goals (go_ret; exact ⟨rfl, by assumption⟩)
  · go_enter Try.func5, Try.ntmps5
    go_wp2_with fail
    go_at_call 7
    refine (new_ok a d _ (by omega) (by omega) (by omega) (by omega)).mono ?_
    rintro e w1 ⟨rfl, h1, x1⟩
    have hsz := x1.size
    go_wp2_with fail
    have hX : Ext (fun k => w.heap.size ≤ k) w (w1.alloc (.cells #[.int .i64 a, .int .i64 d, .int .i64 0] 30)) := (x1.mono (fun _ _ h => h.elim)).alloc _
    generalize w1.alloc (.cells #[.int .i64 a, .int .i64 d, .int .i64 0] 30) = w2 at *
    go_loopw [9] (fun i wr => i = .int .i64 0 ∧ wr = w2) (fun _ _ => 0)
    case atStart => exact ⟨rfl, rfl⟩
    case round =>
      obtain ⟨rfl, rfl⟩ := hrel
      go_wp2_with fail
      go_at_call 6
      refine (sure_any _).mono ?_
      rintro e w3 ⟨rfl, x3⟩
      go_wp2
      go_ret
      exact ⟨rfl, (hX.below (Nat.le_refl _) (fun k hk h => by omega)).trans (x3.mono hX.size)⟩
end Alive
end Go.Proofs.Ytaenaiffjpjioaa
