/- sure: the fixed calls. -/
import Derived.Test.YtlacngdbembkkaaClone
namespace Go.Proofs.Ytlacngdbembkkaa
open Go.RowKit

theorem bs_lit (w : World) (l : List Int) {cs : Array Value} {n : Nat} (h : cs = (l.map (.int .u8)).toArray) (hn : n = l.length) :
    Bs (w.alloc (.cells cs 5)) (fun k => k < w.heap.size) (.slice (some ⟨w.heap.size, 0, none⟩) n n) l := by
  subst h hn
  refine ⟨_, _, rfl, Nat.le_refl _, fun _ => ⟨w.heap.size, 0, rfl, by omega, by simp, fun j x hj => ?_⟩⟩
  rw [World.cell?_alloc_at _ _ _ _ rfl]
  simp [hj]

theorem feed1 : feedL [] false [4, 2, 0, 8, 0] = ([], [4, 2, 0, 8, 0], false) := by
  simp only [feedL, List.nil_append]
  rw [split_wait (b := [4, 2, 0, 8, 0]) (by decide) (by decide) (by decide)]; rfl
theorem feed2 : feedL [4, 2, 0, 8, 0] false [0, 0, 9, 4] = ([[4, 2, 0, 8, 0, 0, 0, 9]], [4], false) := by
  simp only [feedL, List.cons_append, List.nil_append]
  rw [split_cut (b := [4, 2, 0, 8, 0, 0, 0, 9, 4]) (by decide) (by decide) (by decide), show told [4, 2, 0, 8, 0, 0, 0, 9, 4] = 8 by decide, show ([4, 2, 0, 8, 0, 0, 0, 9, 4] : List Int).drop 8 = [4] from rfl, split_short (b := [4]) (by decide)]; rfl
theorem feed3 : feedL [4] false [0, 0, 7] = ([], [], true) := by
  simp only [feedL, List.cons_append, List.nil_append]
  rw [split_bad (b := [4, 0, 0, 7]) (by decide) (by decide)]; rfl
theorem byt_dec {l : List Int} (h : (l.all fun x => decide (0 ≤ x ∧ x ≤ 255)) = true) : Byt l := fun x hx => by simpa using List.all_eq_true.1 h x hx

/-- One call of Feed, on a literal. -/
theorem feedLit {w : World} {m p : Nat} {held : List Int} (h : Fm w (fun k => k = p) p held false) (hm : m ≤ w.heap.size ∧ m ≤ p) (l : List Int) {cs : Array Value} {n : Nat} (hcs : cs = (l.map (.int .u8)).toArray) (hn : n = l.length) (hh : Byt held) (hl : Byt l) (htot : held.length + l.length ≤ 1000000)
    {fs : List (List Int)} {rest : List Int} {bad : Bool} (hf : feedL held false l = (fs, rest, bad)) :
    Calls Try.prog 10 #[.pointer (some ⟨p, 0, none⟩), .slice (some ⟨w.heap.size, 0, none⟩) n n] (w.alloc (.cells cs 5)) fun e w' => ∃ fv, e = .returned (.tuple #[fv, .int .i64 (codeOf bad)]) ∧ Fs w' (fun k => k = p) fv fs ∧ Fm w' (fun k => k = p) p rest bad ∧ (m ≤ w'.heap.size ∧ m ≤ p) ∧ Ext (fun k => k = p) w w' := by
  have h1 : Fm (w.alloc (.cells cs 5)) (fun k => k = p) p held false := h.keep ((Ext.refl (fun _ => False) w).alloc _) (fun _ _ h => h.elim) (fun h => h)
  have := feed_ok h1 (bs_lit w l hcs hn) hh hl htot
  rw [hf] at this
  refine this.mono ?_
  rintro e w' ⟨fv, rfl, hfr, hfm, hx⟩
  have hlt : p < (w.alloc (.cells cs 5)).heap.size := h1.lt
  refine ⟨fv, rfl, hfr.fs.mono (fun k _ e => by rw [e]; exact hlt), hfm.mono (fun k _ e => ⟨e, by rw [e]; exact hlt⟩) rfl, ⟨by have := hx.size; simp at this; omega, hm.2⟩, ((Ext.refl _ w).alloc _).trans hx⟩

set_option maxHeartbeats 3200000 in
theorem sure_ok (w : World) : Calls Try.prog 8 #[] w fun e w' => e = .returned (.bool true) ∧ Below w.heap.size w w' := by
  go_enter Try.func8, Try.ntmps8
  go_wp2_with fail
  go_at_call 9
  refine (new_ok w).mono ?_
  rintro e w1 ⟨rfl, hp, hB⟩
  replace hp := hp (fun k => k = w.heap.size) rfl
  have hE : Ext (fun k => w.heap.size ≤ k) w w1 := Ext.of_below hB
  have hm : w.heap.size ≤ w1.heap.size ∧ w.heap.size ≤ w.heap.size := ⟨hB.size, Nat.le_refl _⟩
  clear hB
  generalize hpp : w.heap.size = p at hp
  rw [hpp] at hm
  go_wp2_with fail
  go_at_call 10
  refine (feedLit hp hm [4, 2, 0, 8, 0] rfl rfl Byt.nil (byt_dec (by decide)) (by decide) feed1).mono ?_
  rintro e w2 ⟨fa, rfl, hfa, hp, hm, hX⟩
  obtain ⟨qa, ca, rfl, _, _⟩ := hfa
  replace hE := hE.trans (hX.mono (fun k _ h => by rw [h]; omega))
  clear hX
  simp only [codeOf, List.length_nil]
  go_wp2_with fail
  go_at_call 10
  refine (feedLit hp hm [0, 0, 9, 4] rfl rfl (byt_dec (by decide)) (byt_dec (by decide)) (by decide) feed2).mono ?_
  rintro e w3 ⟨fb, rfl, hfb, hp, hm, hX⟩
  replace hE := hE.trans (hX.mono (fun k _ h => by rw [h]; omega))
  clear hX
  obtain ⟨qb, cb, rfl, _, hfb⟩ := hfb
  obtain ⟨bb, ob, rfl, hb1, hb2, hb3⟩ := hfb (by simp)
  obtain ⟨u, hu, hub⟩ := hb3 0 _ rfl
  simp only [Nat.add_zero] at hu
  simp only [codeOf, List.length_cons, List.length_nil]
  clear hb3 hfb
  go_wp2_with fail
  go_at_call 13
  refine (held_ok hp).mono ?_
  rintro e w4 ⟨rfl, hw⟩
  have hw := hw.symm
  subst hw
  simp only [List.length_cons, List.length_nil]
  go_wp2_with fail
  go_at_call 10
  refine (feedLit hp hm [0, 0, 7] rfl rfl (byt_dec (by decide)) (byt_dec (by decide)) (by decide) feed3).mono ?_
  rintro e w5 ⟨fc, rfl, hfc, hp, hm, hX⟩
  obtain ⟨qc, cc, rfl, _, _⟩ := hfc
  replace hE := hE.trans (hX.mono (fun k _ h => by rw [h]; omega))
  replace hub := hub.keep hX (fun _ _ h => h)
  replace hu : w5.cell? ⟨bb, ob, none⟩ = some u := (hX.cell (p := ⟨bb, ob, none⟩) hb2 hb1).trans hu
  clear hX
  simp only [codeOf]
  go_wp2_with fail
  go_at_call 10
  refine (feed_nil _ _ _ _).mono ?_
  rintro e w6 ⟨rfl, hw⟩
  have hw := hw.symm
  subst hw
  obtain ⟨qu, cu, rfl, hcu, hub⟩ := hub
  have hub : Bs w5 (fun k => k = p) (.slice qu [4, 2, 0, 8, 0, 0, 0, 9].length cu) [4, 2, 0, 8, 0, 0, 0, 9] := ⟨qu, cu, rfl, hcu, hub⟩
  simp only [List.length_cons, List.length_nil] at hu hub
  go_wp2_with fail
  go_at_call 18
  refine (bytes_eq _ _ [4, 2, 0, 8, 0, 0, 0, 9] [4, 2, 0, 8, 0, 0, 0, 9] _ _ _ (hub.keep ((Ext.refl (fun _ => False) _).alloc _) (fun _ _ h => h.elim)) (bs_lit w5 [4, 2, 0, 8, 0, 0, 0, 9] rfl rfl) (by decide)).mono ?_
  rintro e w7 ⟨rfl, n, hn⟩
  have hX : Ext (fun _ => False) w5 w7 := by rw [hn]; exact ((Ext.refl _ _).alloc _).drewN n
  clear hn
  rw [show (decide (([4, 2, 0, 8, 0, 0, 0, 9] : List Int) = [4, 2, 0, 8, 0, 0, 0, 9])) = true by decide]
  replace hE := hE.trans (hX.mono (fun _ _ h => h.elim))
  replace hp := hp.keep hX (fun _ _ h => h.elim) (fun h => h)
  clear hX hu hub
  go_wp2_with fail
  go_at_call 15
  refine (failed_ok hp).mono ?_
  rintro e w8 ⟨rfl, hw⟩
  have hw := hw.symm
  subst hw
  go_wp2_with fail
  go_at_call 13
  refine (held_ok hp).mono ?_
  rintro e w8 ⟨rfl, hw⟩
  have hw := hw.symm
  subst hw
  simp only [List.length_nil]
  go_wp2_with fail
  go_at_call 13
  refine (held_nil _).mono ?_
  rintro e w8 ⟨rfl, hw⟩
  have hw := hw.symm
  subst hw
  go_wp2_with fail
  go_at_call 15
  refine (failed_nil _).mono ?_
  rintro e w8 ⟨rfl, hw⟩
  have hw := hw.symm
  subst hw
  go_wp2
  go_ret
  exact ⟨rfl, hE.below (Nat.le_refl _) (fun k hk => by omega)⟩
end Go.Proofs.Ytlacngdbembkkaa
