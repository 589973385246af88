/- Drop, Close. -/
import Derived.Test.YthminmcdkcnkpaaTab
namespace Go.Proofs.Ythminmcdkcnkpaa
open Go.RowKit Go.Maps
section
variable {w w' : World} {p b n : Nat} {room turns last : Int} {L : List En}

set_option maxHeartbeats 800000 in
theorem drop_ok (h : Tab w p b n room turns last L) {x : Int} (hx : 0 ≤ x ∧ x < 4294967296) : Calls Try.prog 17 #[.pointer (some ⟨p, 0, none⟩), .int .u32 x] w fun e w' => e = .returned (.bool (decide (x ∈ keys L))) ∧ Tab w' p b n room turns last (strike L x) ∧ Ext (fun k => k = b) w w' := by
  by_cases hm : x ∈ keys L
  · have hk := kind_ok h hx
    simp only [hm, decide_true] at hk ⊢
    generalize valAt L x = v at *
    go_enter Try.func17, Try.ntmps17
    go_wp2_with fail
    go_at_call 12
    refine hk.mono ?_
    rintro e w1 ⟨rfl, hE⟩
    have h1 := h.keep hE (fun h => h) (fun h => h)
    have hE1 : Ext (fun k => k = b) w w1 := hE.mono (fun _ _ h => h.elim)
    clear hE hk h
    have h3 := h1.c3
    obtain ⟨D, hown, hM⟩ := h1.map
    go_wp2_with (at_delete; refine wpList_delete_own _ rfl _ _ 49 22 rfl 55 key22 Try.underlying49 waitElem b n D rfl hown _ _ rfl (keyOf32 hx) ?_; intro w2 hown2 hturn2)
    go_ret
    have hE2 : Ext (fun k => k = b) w1 w2 := (Ext.refl _ w1).grown hturn2.grown (fun j e => .inl (by injection e with e; exact e.symm))
    refine ⟨rfl, ?_, hE1.trans hE2⟩
    have h0 := h1.lt
    have hp : ¬ p = b := h1.ne
    exact ⟨(hE2.cell (p := ⟨p, 0, none⟩) h0 hp).trans h1.c0, (hE2.cell (p := ⟨p, 1, none⟩) h0 hp).trans h1.c1, (hE2.cell (p := ⟨p, 2, none⟩) h0 hp).trans h1.c2, (hE2.cell (p := ⟨p, 3, none⟩) h0 hp).trans h1.c3,
      fun j => (hE2.frozen (p := ⟨p, j, none⟩) h0 hp).trans (h1.fz j), Nat.lt_of_lt_of_le h0 hE2.size, hp, _, hown2, hM.del x⟩
  · have hk := kind_ok h hx
    simp only [hm, decide_false] at hk ⊢
    rw [strike_none hm]
    generalize valAt L x = v at *
    go_enter Try.func17, Try.ntmps17
    go_wp2_with fail
    go_at_call 12
    refine hk.mono ?_
    rintro e w1 ⟨rfl, hE⟩
    go_wp2
    go_ret
    exact ⟨rfl, h.keep hE (fun h => h) (fun h => h), hE.mono (fun _ _ h => h.elim)⟩

def ansOf (k : Int) : Int := if isAsk k then k + 1 else 0
def closeCode (L : List En) (x k : Int) : Int := if x ∈ keys L then (if ansOf (valAt L x).1 = k then 0 else 10001) else 10004
def closeL (L : List En) (x k : Int) : List En := if x ∈ keys L then (if ansOf (valAt L x).1 = k then strike L x else L) else L

set_option maxHeartbeats 1600000 in
theorem close_ok (h : Tab w p b n room turns last L) {x : Int} (hx : 0 ≤ x ∧ x < 4294967296) (k : Int) : Calls Try.prog 8 #[.pointer (some ⟨p, 0, none⟩), .int .u32 x, .int .i64 k] w fun e w' => e = .returned (.int .i64 (closeCode L x k)) ∧ Tab w' p b n room turns last (closeL L x k) ∧ Ext (fun k => k = b) w w' := by
  have hk := kind_ok h hx
  by_cases hm : x ∈ keys L
  · simp only [closeCode, closeL, hm, decide_true, if_true] at hk ⊢
    generalize (valAt L x) = v at *
    obtain ⟨v1, v2⟩ := v
    simp only at hk ⊢
    by_cases ha : ansOf v1 = k
    · simp only [ha, if_true]
      go_enter Try.func8, Try.ntmps8
      go_wp2_with fail
      go_at_call 15
      refine (none_some h).mono ?_
      rintro e w1 ⟨rfl, hw⟩
      have hw := hw.symm
      subst hw
      go_wp2_with fail
      go_at_call 12
      refine hk.mono ?_
      rintro e w1 ⟨rfl, hE⟩
      have h1 := h.keep hE (fun h => h) (fun h => h)
      have hE1 : Ext (fun k => k = b) w w1 := hE.mono (fun _ _ h => h.elim)
      clear hE hk h
      go_wp2_with fail
      go_at_call 14
      refine (answer_ok _ _).mono ?_
      rintro e w2 ⟨rfl, hw⟩
      have hw := hw.symm
      subst hw
      rw [show (if isAsk v1 = true then v1 + 1 else 0) = k from ha]
      generalize isAsk v1 = q
      go_wp2_with fail
      go_at_call 17
      refine (drop_ok h1 hx).mono ?_
      rintro e w3 ⟨rfl, h2, hE2⟩
      go_wp2
      go_ret
      exact ⟨rfl, h2, hE1.trans hE2⟩
    · simp only [ha, if_false]
      go_enter Try.func8, Try.ntmps8
      go_wp2_with fail
      go_at_call 15
      refine (none_some h).mono ?_
      rintro e w1 ⟨rfl, hw⟩
      have hw := hw.symm
      subst hw
      go_wp2_with fail
      go_at_call 12
      refine hk.mono ?_
      rintro e w1 ⟨rfl, hE⟩
      have h1 := h.keep hE (fun h => h) (fun h => h)
      have hE1 : Ext (fun k => k = b) w w1 := hE.mono (fun _ _ h => h.elim)
      clear hE hk h
      go_wp2_with fail
      go_at_call 14
      refine (answer_ok _ _).mono ?_
      rintro e w2 ⟨rfl, hw⟩
      have hw := hw.symm
      subst hw
      rw [show (if isAsk v1 = true then v1 + 1 else 0) = ansOf v1 from rfl]
      generalize ansOf v1 = a at *
      generalize isAsk v1 = q
      go_wp2
      go_ret
      exact ⟨rfl, h1, hE1⟩
  · simp only [closeCode, closeL, hm, decide_false, if_false] at hk ⊢
    generalize (valAt L x) = v at *
    go_enter Try.func8, Try.ntmps8
    go_wp2_with fail
    go_at_call 15
    refine (none_some h).mono ?_
    rintro e w1 ⟨rfl, hw⟩
    have hw := hw.symm
    subst hw
    go_wp2_with fail
    go_at_call 12
    refine hk.mono ?_
    rintro e w1 ⟨rfl, hE⟩
    go_wp2
    go_ret
    exact ⟨rfl, h.keep hE (fun h => h) (fun h => h), hE.mono (fun _ _ h => h.elim)⟩
end
end Go.Proofs.Ythminmcdkcnkpaa
