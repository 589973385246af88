/- FrameApart. -/
import Derived.Test.YtlacngdbembkkaaFeeds
namespace Go.Proofs.Ytlacngdbembkkaa
open Go.RowKit Go.Shelf

theorem feed_held (held x : List Int) (failed : Bool) : (feedL held failed x).2.1.length ≤ held.length + x.length := by
  cases failed with
  | true => simp [feedL]
  | false =>
    simp only [feedL]
    have h := split_left (held ++ x)
    rw [List.length_append] at h
    cases (splitL (held ++ x)).2.2 with
    | true => exact Nat.zero_le _
    | false => exact h
theorem feed_byt {held x : List Int} {failed : Bool} (h : Byt held) (hx : Byt x) : Byt (feedL held failed x).2.1 := by
  cases failed with
  | true => exact h
  | false =>
    simp only [feedL]
    cases (splitL (held ++ x)).2.2 with
    | true => exact Byt.nil
    | false =>
      intro y hy
      have : y ∈ held ++ x := by rw [← split_eq (held ++ x)]; simp [heldOf] at hy; simp [hy]
      exact (h.append hx) y this

/-- Feed, where the blocks that turn stay the same. -/
theorem feed_same {w : World} {Av : Nat → Prop} (hav : ∀ k, Av k → k < w.heap.size) {p : Nat} {held : List Int} {failed : Bool} (h : Fm w Av p held failed) {cv : Value} {c : List Int} {Av2 : Nat → Prop} (hc : Bs w Av2 cv c) (hbh : Byt held) (hbc : Byt c) (hn : held.length + c.length ≤ 1000000) :
    Calls Try.prog 10 #[.pointer (some ⟨p, 0, none⟩), cv] w fun e w' => ∃ fv, e = .returned (.tuple #[fv, .int .i64 (codeOf (feedL held failed c).2.2)]) ∧ Fs w' (fun k => k < w.heap.size) fv (feedL held failed c).1 ∧ Fm w' Av p (feedL held failed c).2.1 (feedL held failed c).2.2 ∧ Ext (fun k => k = p) w w' :=
  (feed_ok h hc hbh hbc hn).mono fun e w' ⟨fv, he, hfr, hfm, hx⟩ => ⟨fv, he, hfr.fs, hfm.mono (fun k _ hk => ⟨hk, hav k hk⟩) h.avp, hx⟩

set_option maxHeartbeats 6400000 in
theorem apart_ok {w : World} {v av bv : Value} {l : List (List Int)} {a b : List Int} (h : Fs w (fun k => w.heap.size ≤ k) v l) (hn : l.length ≤ 9223372036854775807) (hb : ∀ x ∈ l, x.length ≤ 140737488355328) (hby : ∀ x ∈ l, Byt x)
    (ha : Bs w (fun k => w.heap.size ≤ k) av a) (hal : a.length ≤ 140737488355328) (haby : Byt a) (hbb : Bs w (fun k => w.heap.size ≤ k) bv b) (hbl : b.length ≤ 140737488355328) (hbby : Byt b) :
    Calls Try.prog 6 #[v, av, bv] w fun e w' => e = .returned (.bool true) ∧ Below w.heap.size w w' := by
  have hfew := few_ok h hn hb
  have h0 := h
  have ha0 := ha
  have hb0 := hbb
  obtain ⟨q, cap, rfl, hcap, _⟩ := h
  obtain ⟨qa, ca, rfl⟩ := ha.form
  obtain ⟨qb, cb, rfl⟩ := hbb.form
  go_enter Try.func6, Try.ntmps6
  go_wp2_with fail
  go_at_call 7
  refine hfew.mono ?_
  rintro e w0 ⟨fb, rfl, hw, hfb⟩
  have hw := hw.symm
  subst hw
  have sureEnd : ∀ W, Below w.heap.size w W → Calls Try.prog 8 #[] W fun e w' => e = .returned (.bool true) ∧ Below w.heap.size w w' := fun W hW => (sure_ok W).mono fun e w' ⟨he, hB⟩ => ⟨he, hW.trans (hB.mono hW.size)⟩
  cases fb with
  | false =>
    go_wp2_with fail
    go_at_call 8
    refine (sureEnd _ (Below.refl _ _)).mono ?_
    rintro e w1 ⟨rfl, hB⟩
    go_wp2
    go_ret
    exact ⟨rfl, hB⟩
  | true =>
    obtain ⟨h60, h3000⟩ := hfb rfl
    by_cases hab : 3000 < a.length + b.length
    · have hab' : (3000 : Int) < (a.length : Int) + (b.length : Int) := by omega
      go_wp2_with fail
      go_at_call 8
      refine (sureEnd _ (Below.refl _ _)).mono ?_
      rintro e w1 ⟨rfl, hB⟩
      go_wp2
      go_ret
      exact ⟨rfl, hB⟩
    · have hab' : ¬ (3000 : Int) < (a.length : Int) + (b.length : Int) := by omega
      go_wp2_with fail
      go_at_call 9
      refine (new_ok w).mono ?_
      rintro e w1 ⟨rfl, hnew1, hB1⟩
      go_wp2_with fail
      go_at_call 9
      refine (new_ok w1).mono ?_
      rintro e w2 ⟨rfl, hnew2, hB2⟩
      obtain ⟨pf, hpf⟩ : ∃ pf, pf = w.heap.size := ⟨_, rfl⟩
      obtain ⟨pg, hpg⟩ : ∃ pg, pg = w1.heap.size := ⟨_, rfl⟩
      rw [← hpf] at hnew1
      rw [← hpg] at hnew2
      have hf1 := hnew1 (fun k => k = pf ∨ k = pg) (.inl rfl)
      have hlt : pf < pg := by rw [hpg]; exact hf1.lt
      have hf2 : Fm w2 (fun k => k = pf ∨ k = pg) pf [] false := hf1.keep (S := fun _ => False) (Ext.of_below hB2) (fun _ _ h => h.elim) (fun h => h)
      have hg2 := hnew2 (fun k => k = pf ∨ k = pg) (.inr rfl)
      have low2 : Below w.heap.size w w2 := hB1.trans (hB2.mono hB1.size)
      rw [← hpf, ← hpg]
      have hple : w.heap.size ≤ pf := Nat.le_of_eq hpf.symm
      clear hnew1 hnew2 hf1 hB1 hB2 hpf hpg hfb hw hfew
      go_wp2_with fail
      go_loopw [9] (fun i wr => ∃ (k : Nat) (held : List Int) (failed : Bool), k ≤ l.length ∧ i = .int .i64 k ∧ Below w.heap.size w wr ∧ Fm wr (fun k => k = pf ∨ k = pg) pf held failed ∧ Fm wr (fun k => k = pf ∨ k = pg) pg held failed ∧ held.length ≤ (l.take k).flatten.length ∧ Byt held)
        (fun i _ => (l.length - intOf i).toNat)
      case atStart => exact ⟨0, [], false, Nat.zero_le _, rfl, low2, hf2, hg2, Nat.zero_le _, Byt.nil⟩
      case round =>
        obtain ⟨k, held, failed, hk, rfl, low, hf, hg, hhl, hhb⟩ := hrel
        by_cases hkn : k < l.length
        · obtain ⟨x, hx⟩ : ∃ x, l[k]? = some x := ⟨_, List.getElem?_eq_getElem hkn⟩
          obtain ⟨p0, cp0, e0, _, g⟩ := h0.mono (Av' := fun k => w.heap.size ≤ k) (fun _ _ h => h)
          cases e0
          obtain ⟨b0, off, rfl, g1, g2, g3⟩ := g (by intro e; simp [e] at hkn)
          obtain ⟨u, hu, hub⟩ := g3 k x hx
          have hur : wr.cell? ⟨b0, off + k, none⟩ = some u := (low.cell (p := ⟨b0, off + k, none⟩) g2).trans hu
          have hubr : Bs wr (fun k => w.heap.size ≤ k) u x := hub.belowA low
          have hka : (k : Int) < (l.length : Int) := by omega
          have hxb := hby x (List.mem_of_getElem? hx)
          have hsum : (l.take k).flatten.length + x.length ≤ 3000 := by
            have h1 := total_take_succ l k x hx
            have h2 := total_take_le l (k + 1)
            have h3 := total_flatten (l.take k)
            omega
          have hfs : (l.take (k + 1)).flatten = (l.take k).flatten ++ x := by rw [List.take_add_one, hx]; simp
          have hav : ∀ W : World, pg < W.heap.size → ∀ k, (k = pf ∨ k = pg) → k < W.heap.size := fun W hW k hk => by omega
          have hfh := feed_held held x failed
          have hfb := feed_byt (failed := failed) hhb hxb
          clear g g3
          go_wp2_with fail
          go_at_call 10
          refine (feed_same (hav wr hg.lt) hf hubr hhb hxb (by omega)).mono ?_
          rintro e w3 ⟨fv, rfl, _, hf3, hX⟩
          have hg3 := hg.keep hX (fun _ _ h => .inl h) (by omega)
          have low3 := below_ext low hX (fun k hk => by omega) low.size
          have hur3 : w3.cell? ⟨b0, off + k, none⟩ = some u := (low3.cell (p := ⟨b0, off + k, none⟩) g2).trans hu
          have hubr3 : Bs w3 (fun k => w.heap.size ≤ k) u x := hub.belowA low3
          go_wp2_with fail
          go_at_call 10
          refine (feed_same (hav w3 hg3.lt) hg3 hubr3 hhb hxb (by omega)).mono ?_
          rintro e w4 ⟨fv2, rfl, _, hg4, hX2⟩
          have hf4 := hf3.keep hX2 (fun _ _ h => .inr h) (by omega)
          have low4 := below_ext low3 hX2 (fun k hk => by omega) low3.size
          go_wp2_with fail
          go_roundw
          case rel => exact ⟨k + 1, _, _, by omega, by go_num, low4, hf4, hg4, by rw [hfs, List.length_append]; omega, hfb⟩
          case measure => simp [intOf]; omega
        · have he : k = l.length := by omega
          subst he
          rw [List.take_length, total_flatten] at hhl
          have hpgl := hg.lt
          have hhl2 : held.length ≤ 1000000 := by omega
          go_wp2_with fail
          go_at_call 21
          refine (clone_ok hf hhl2).mono ?_
          rintro e w3 ⟨pc, rfl, hpc, hc3, hB3⟩
          have hc3' : Fm w3 (fun k => k = pf ∨ k = pg ∨ k = pc) pc held failed := hc3.mono (fun k _ hk => by rcases hk with h | h | h; exact .inl (by omega); exact .inl (by omega); exact .inr h) (.inr (.inr rfl))
          have lift : ∀ p, (p = pf ∨ p = pg) → Fm wr (fun k => k = pf ∨ k = pg) p held failed → Fm w3 (fun k => k = pf ∨ k = pg ∨ k = pc) p held failed := fun p hp hm =>
            (hm.mono (Av' := fun k => k = pf ∨ k = pg ∨ k = pc) (fun k hk h => by rcases h with h | h | h; exact .inl h; exact .inr h; omega) (by rcases hp with h | h; exact .inl h; exact .inr (.inl h))).keep (S := fun _ => False) (Ext.of_below hB3) (fun _ _ h => h.elim) (fun h => h)
          have hf3 := lift pf (.inl rfl) hf
          have hg3 := lift pg (.inr rfl) hg
          have low3 : Below w.heap.size w w3 := low.trans (hB3.mono low.size)
          have hne1 : pc ≠ pf := by omega
          have hne2 : pc ≠ pg := by omega
          have hne3 : pf ≠ pg := by omega
          have hpcle : w.heap.size ≤ pc := Nat.le_trans low.size hpc
          have hav : ∀ W : World, pc < W.heap.size → ∀ k, (k = pf ∨ k = pg ∨ k = pc) → k < W.heap.size := fun W hW k hk => by omega
          clear lift hc3 hf hg hpc hpgl
          go_wp2_with fail
          go_at_call 10
          refine (feed_same (hav w3 hc3'.lt) hf3 (ha0.belowA low3) hhb haby (by omega)).mono ?_
          rintro e w4 ⟨fv, rfl, _, hf4, hX⟩
          have hc4 := hc3'.keep hX (fun _ _ h => .inl h) hne1
          have hg4 := hg3.keep hX (fun _ _ h => .inl h) (fun h => hne3 h.symm)
          have low4 := below_ext low3 hX (fun k hk => by omega) low3.size
          obtain ⟨fs, h2, f2, hF⟩ : ∃ fs h2 f2, feedL held failed b = (fs, h2, f2) := ⟨_, _, _, rfl⟩
          have hfl := feed_bound held b failed
          have hc5 := feed_same (hav w4 hc4.lt) hc4 (hb0.belowA low4) hhb hbby (by omega)
          have hg5 := fun (W : World) (low : Below w.heap.size w W) (hg : Fm W (fun k => k = pf ∨ k = pg ∨ k = pc) pg held failed) (hl : pc < W.heap.size) => feed_same (hav W hl) hg (hb0.belowA low) hhb hbby (by omega)
          rw [hF] at hfl hc5
          simp only [hF] at hg5
          obtain ⟨hfl1, hfl2⟩ := hfl
          simp only at hfl1 hfl2 hc5
          replace hfl2 : ∀ f ∈ fs, f.length ≤ 1000000 := fun f hf => by have := hfl2 f hf; omega
          clear hF
          go_wp2_with fail
          go_at_call 10
          refine hc5.mono ?_
          rintro e w5 ⟨xv, rfl, hxv, hc5, hX2⟩
          have hg5' := hg4.keep hX2 (fun _ _ h => .inr (.inr h)) (fun h => hne2 h.symm)
          have low5 := below_ext low4 hX2 (fun k hk => by omega) low4.size
          go_wp2_with fail
          go_at_call 10
          refine (hg5 w5 low5 hg5' hc5.lt).mono ?_
          rintro e w6 ⟨yv, rfl, hyv, hg6, hX3⟩
          have hc6 := hc5.keep hX3 (fun _ _ h => .inr (.inl h)) hne2
          have low6 := below_ext low5 hX3 (fun k hk => by omega) low5.size
          have hxv6 := hxv.keep hX3 (fun k _ h => by rw [h]; exact hg4.lt)
          go_wp2_with fail
          go_at_call 12
          refine (same_ok hxv6 hyv (by omega) hfl2).mono ?_
          rintro e w7 ⟨rfl, n7, hw7⟩
          rw [decide_eq_true (rfl : fs = fs)]
          have hX7 : Ext (fun _ => False) w6 w7 := by rw [hw7]; exact (Ext.refl _ w6).drewN n7
          have hc7 := hc6.keep hX7 (fun _ _ h => h.elim) (fun h => h)
          have hg7 := hg6.keep hX7 (fun _ _ h => h.elim) (fun h => h)
          have low7 := below_ext low6 hX7 (fun k hk => hk.elim) low6.size
          clear hw7
          go_wp2_with fail
          go_at_call 13
          refine (held_ok hc7).mono ?_
          rintro e w8 ⟨rfl, hw8⟩
          have hw8 := hw8.symm
          subst hw8
          go_wp2_with fail
          go_at_call 13
          refine (held_ok hg7).mono ?_
          rintro e w8 ⟨rfl, hw8⟩
          have hw8 := hw8.symm
          subst hw8
          go_wp2_with fail
          go_at_call 8
          refine (sureEnd _ low7).mono ?_
          rintro e w9 ⟨rfl, hB⟩
          go_wp2
          go_ret
          exact ⟨rfl, hB⟩
end Go.Proofs.Ytlacngdbembkkaa
