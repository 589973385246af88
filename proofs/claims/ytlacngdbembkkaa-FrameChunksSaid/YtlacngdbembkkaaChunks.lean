/- FrameChunks. -/
import Derived.Test.YtlacngdbembkkaaTold
namespace Go.Proofs.Ytlacngdbembkkaa
open Go.RowKit Go.Shelf

/-- A row that grows: what lies in no block of it goes on lying so. -/
theorem grow_ext {W W' : World} {al : Value} (hg : W.grownBy W' al.ownBlock) : Ext (fun k => al.ownBlock = some k) W W' := ⟨hg.os, hg.tape, hg.output, hg.size, fun k hk hs => hg.block k hk (fun e => hs e.symm)⟩
theorem grow_av {W : World} {al al' : Value} {A : Nat → Prop} (ho : al'.ownBlock = al.ownBlock ∨ al'.ownBlock = some W.heap.size) {k : Nat} (hk : A k ∨ al'.ownBlock = some k) : (A k ∨ al.ownBlock = some k) ∨ W.heap.size ≤ k := by
  rcases hk with hk | hk
  · exact .inl (.inl hk)
  · rcases ho with e | e
    · exact .inl (.inr (by rw [← e]; exact hk))
    · rw [e] at hk; cases hk; exact .inr (Nat.le_refl _)
theorem Fs.grow {W W' : World} {al al' : Value} {A : Nat → Prop} {v : Value} {fs : List (List Int)} (h : Fs W (fun k => A k ∨ al.ownBlock = some k) v fs) (hg : W.grownBy W' al.ownBlock) (ho : al'.ownBlock = al.ownBlock ∨ al'.ownBlock = some W.heap.size) : Fs W' (fun k => A k ∨ al'.ownBlock = some k) v fs :=
  ((h.mono (Av' := fun k => (A k ∨ al.ownBlock = some k) ∨ W.heap.size ≤ k) (fun k hk hh => hh.resolve_right (by omega))).keep (grow_ext hg) (fun _ _ hh => .inl (.inr hh))).mono (fun _ _ hh => grow_av ho hh)
theorem Fm.grow {W W' : World} {al al' : Value} {A : Nat → Prop} {p : Nat} {held : List Int} {f : Bool} (h : Fm W (fun k => A k ∨ al.ownBlock = some k) p held f) (hA : A p) (hp : al.ownBlock ≠ some p) (hg : W.grownBy W' al.ownBlock) (ho : al'.ownBlock = al.ownBlock ∨ al'.ownBlock = some W.heap.size) : Fm W' (fun k => A k ∨ al'.ownBlock = some k) p held f :=
  ((h.mono (Av' := fun k => (A k ∨ al.ownBlock = some k) ∨ W.heap.size ≤ k) (fun k hk hh => hh.resolve_right (by omega)) (.inl (.inl hA))).keep (grow_ext hg) (fun _ _ hh => .inl (.inr hh)) hp).mono (fun _ _ hh => grow_av ho hh) (.inl hA)

theorem byt_mem {s x : List Int} (hs : Byt s) (h : ∀ y ∈ x, y ∈ s) : Byt x := fun y hy => hs y (h y hy)

set_option maxHeartbeats 6400000 in
theorem chunks_ok {w : World} {sv cv dv : Value} {s cs ds : List Int} (hs : Bs w (fun k => w.heap.size ≤ k) sv s) (hsl : s.length ≤ 140737488355328) (hsb : Byt s)
    (hc : Bs w (fun k => w.heap.size ≤ k) cv cs) (hcl : cs.length ≤ 140737488355328) (hcb : Byt cs) (hd : Bs w (fun k => w.heap.size ≤ k) dv ds) (hdl : ds.length ≤ 140737488355328) (hdb : Byt ds) :
    Calls Try.prog 4 #[sv, cv, dv] w fun e w' => e = .returned (.bool true) ∧ Below w.heap.size w w' := by
  have hs0 := hs
  have hc0 := hc
  have hd0 := hd
  obtain ⟨qs, c1, rfl⟩ := hs.form
  obtain ⟨qc, c2, rfl⟩ := hc.form
  obtain ⟨qd, c3, rfl⟩ := hd.form
  have sureEnd : ∀ W, Below w.heap.size w W → Calls Try.prog 8 #[] W fun e w' => e = .returned (.bool true) ∧ Below w.heap.size w w' := fun W hW => (sure_ok W).mono fun e w' ⟨he, hB⟩ => ⟨he, hW.trans (hB.mono hW.size)⟩
  by_cases h3 : 3000 < s.length
  · have h3' : (3000 : Int) < (s.length : Int) := by omega
    go_enter Try.func4, Try.ntmps4
    go_wp2_with fail
    go_at_call 8
    refine (sureEnd _ (Below.refl _ _)).mono ?_
    rintro e w1 ⟨rfl, hB⟩
    go_wp2
    go_ret
    exact ⟨rfl, hB⟩
  · have h3' : ¬ (3000 : Int) < (s.length : Int) := by omega
    by_cases h12 : 120 < cs.length + ds.length
    · have h12' : (120 : Int) < (cs.length : Int) + (ds.length : Int) := by omega
      go_enter Try.func4, Try.ntmps4
      go_wp2_with fail
      go_at_call 8
      refine (sureEnd _ (Below.refl _ _)).mono ?_
      rintro e w1 ⟨rfl, hB⟩
      go_wp2
      go_ret
      exact ⟨rfl, hB⟩
    · have h12' : ¬ (120 : Int) < (cs.length : Int) + (ds.length : Int) := by omega
      go_enter Try.func4, Try.ntmps4
      go_wp2_with fail
      go_at_call 9
      refine (new_ok w).mono ?_
      rintro e w1 ⟨rfl, hnew1, hB1⟩
      go_wp2_with fail
      go_at_call 9
      refine (new_ok w1).mono ?_
      rintro e w2 ⟨rfl, hnew2, hB2⟩
      obtain ⟨pf, hpf⟩ : ∃ pf, pf = w.heap.size := ⟨_, rfl⟩
      obtain ⟨pg, hpg⟩ : ∃ pg, pg = w1.heap.size := ⟨_, rfl⟩
      rw [← hpf] at hnew1
      rw [← hpg] at hnew2
      have hf1 := hnew1 (fun k => k = pf ∨ k = pg) (.inl rfl)
      have hlt : pf < pg := by rw [hpg]; exact hf1.lt
      have hf2 : Fm w2 (fun k => k = pf ∨ k = pg) pf [] false := hf1.keep (S := fun _ => False) (Ext.of_below hB2) (fun _ _ h => h.elim) (fun h => h)
      have hg2 := hnew2 (fun k => k = pf ∨ k = pg) (.inr rfl)
      have low2 : Below w.heap.size w w2 := hB1.trans (hB2.mono hB1.size)
      rw [← hpf, ← hpg]
      have hple : w.heap.size ≤ pf := Nat.le_of_eq hpf.symm
      clear hnew1 hnew2 hf1 hB1 hB2 hpf hpg
      have hav : ∀ W : World, pg < W.heap.size → ∀ k, (k = pf ∨ k = pg) → k < W.heap.size := fun W hW k hk => by omega
      have hbyp : ∀ cs, ∀ c ∈ piecesL s cs, Byt c := fun cs c hc => byt_mem hsb (pieces_mem cs s c hc).1
      have hstart : ∀ cs, toldL [] false (piecesL s cs) = ((splitL s).1, heldOf (splitL s).2.2 (splitL s).2.1, (splitL s).2.2) := fun cs => by rw [told_start, pieces_flat]
      go_wp2_with fail
      go_at_call 20
      refine (pieces_ok (hs0.belowA low2) (hc0.belowA low2) hcb (by omega) (by omega)).mono ?_
      rintro e w3 ⟨pv, rfl, hpv, hB3⟩
      have low3 : Below w.heap.size w w3 := low2.trans (hB3.mono low2.size)
      have hf3 := hf2.keep (S := fun _ => False) (Ext.of_below hB3) (fun _ _ h => h.elim) (fun h => h)
      have hg3 := hg2.keep (S := fun _ => False) (Ext.of_below hB3) (fun _ _ h => h.elim) (fun h => h)
      have hpv3 : Fs w3 (fun k => k = pf) pv (piecesL s cs) := hpv.mono (fun k _ hk => by have := hg2.lt; omega)
      have ht1 := told_ok (hav w3 hg3.lt) hf3 hpv3 (hbyp cs) (by rw [pieces_len]; omega) (by rw [pieces_flat]; omega)
      rw [hstart] at ht1
      go_wp2_with fail
      go_at_call 19
      refine ht1.mono ?_
      rintro e w4 ⟨av, rfl, hav4, hf4, hX4⟩
      have hg4 := hg3.keep hX4 (fun _ _ h => .inl h) (by omega)
      have low4 := below_ext low3 hX4 (fun k hk => by omega) low3.size
      go_wp2_with fail
      go_at_call 20
      refine (pieces_ok (hs0.belowA low4) (hd0.belowA low4) hdb (by omega) (by omega)).mono ?_
      rintro e w5 ⟨pv2, rfl, hpv2, hB5⟩
      have low5 : Below w.heap.size w w5 := low4.trans (hB5.mono low4.size)
      have hf5 := hf4.keep (S := fun _ => False) (Ext.of_below hB5) (fun _ _ h => h.elim) (fun h => h)
      have hg5 := hg4.keep (S := fun _ => False) (Ext.of_below hB5) (fun _ _ h => h.elim) (fun h => h)
      have hpv5 : Fs w5 (fun k => k = pg) pv2 (piecesL s ds) := hpv2.mono (fun k _ hk => by have := hg4.lt; omega)
      have ht2 := told_ok (hav w5 hg5.lt) hg5 hpv5 (hbyp ds) (by rw [pieces_len]; omega) (by rw [pieces_flat]; omega)
      rw [hstart] at ht2
      go_wp2_with fail
      go_at_call 19
      refine ht2.mono ?_
      rintro e w6 ⟨bv, rfl, hbv6, hg6, hX6⟩
      have hf6 := hf5.keep hX6 (fun _ _ h => .inr h) (by omega)
      have low6 := below_ext low5 hX6 (fun k hk => by omega) low5.size
      have hav6 : Fs w6 (fun k => k < w3.heap.size) av (splitL s).1 := (hav4.fs.keep (S := fun _ => False) (Ext.of_below hB5) (fun _ _ h => h.elim)).keep hX6 (fun k _ h => by rw [h]; exact hg3.lt)
      have heq := split_eq s
      have hlen := congrArg List.length heq
      rw [List.length_append] at hlen
      have hcnt := splitL_count s.length s (Nat.le_refl _)
      have h8 := split_eight s.length s (Nat.le_refl _)
      have hheld : (splitL s).2.2 = false → (splitL s).2.1.length ≤ 65534 := fun hf => split_held hsb hf
      obtain ⟨F, rest, bad, hsp⟩ : ∃ F rest bad, splitL s = (F, rest, bad) := ⟨_, _, _, rfl⟩
      rw [hsp] at hav6 hbv6 hf6 hg6 heq hlen hcnt h8 hheld ⊢
      simp only at hav6 hbv6 hf6 hg6 heq hlen hcnt h8 hheld ⊢
      have hFl : ∀ f ∈ F, f.length ≤ 1000000 := fun f hf => by
        have h3 : f.length ≤ F.flatten.length := (List.sublist_flatten_of_mem hf).length_le
        omega
      have hltg := hg3.lt
      clear hsp hstart ht1 ht2 hav4 hf3 hf4 hf5 hg3 hg4 hg5 hpv hpv2 hpv3 hpv5
      go_wp2_with fail
      go_at_call 12
      refine (same_ok hav6 hbv6.fs (by omega) hFl).mono ?_
      rintro e w7 ⟨rfl, n7, hw7⟩
      rw [decide_eq_true (rfl : F = F)]
      have hX7 : Ext (fun _ => False) w6 w7 := by rw [hw7]; exact (Ext.refl _ w6).drewN n7
      have hf7 := hf6.keep hX7 (fun _ _ h => h.elim) (fun h => h)
      have hg7 := hg6.keep hX7 (fun _ _ h => h.elim) (fun h => h)
      have hav7 := hav6.keep hX7 (fun _ _ h => h.elim)
      have low7 := below_ext low6 hX7 (fun k hk => hk.elim) low6.size
      clear hw7 hf6 hg6 hav6 hbv6 hX7
      go_wp2_with fail
      go_at_call 13
      refine (held_ok hf7).mono ?_
      rintro e w8 ⟨rfl, hw8⟩
      have hw8 := hw8.symm
      subst hw8
      go_wp2_with fail
      go_at_call 13
      refine (held_ok hg7).mono ?_
      rintro e w8 ⟨rfl, hw8⟩
      have hw8 := hw8.symm
      subst hw8
      go_wp2_with fail
      go_at_call 15
      refine (failed_ok hf7).mono ?_
      rintro e w8 ⟨rfl, hw8⟩
      have hw8 := hw8.symm
      subst hw8
      go_wp2_with fail
      go_at_call 15
      refine (failed_ok hg7).mono ?_
      rintro e w8 ⟨rfl, hw8⟩
      have hw8 := hw8.symm
      subst hw8
      go_wp2_with fail
      go_at_call 15
      refine (failed_ok hf7).mono ?_
      rintro e w8 ⟨rfl, hw8⟩
      have hw8 := hw8.symm
      subst hw8
      have hbc : (!bad == (codeOf bad != 0)) = false := by cases bad <;> rfl
      have hltf : pf < w7.heap.size := hf7.lt
      have hav0 : Fs w7 (fun k => False ∨ (Value.slice none 0 0).ownBlock = some k) av F := hav7.mono (fun k _ hk => by rcases hk with hk | hk; exact hk.elim; simp [Value.ownBlock] at hk)
      have hf0 : Fm w7 (fun k => k = pf ∨ (Value.slice none 0 0).ownBlock = some k) pf (heldOf bad rest) bad := hf7.mono (fun k _ hk => by rcases hk with hk | hk; exact .inl hk; simp [Value.ownBlock] at hk) (.inl rfl)
      obtain ⟨qv, cv2, rfl⟩ : ∃ q c, av = .slice q F.length c := by
        obtain ⟨q, c, e, _⟩ := hav7
        exact ⟨q, c, e⟩
      go_wp2_with fail
      go_loopw [13, 14] (fun al i wr => ∃ k : Nat, k ≤ F.length ∧ i = .int .i64 k ∧ Below w.heap.size w wr ∧ w7.heap.size ≤ wr.heap.size ∧ Fs wr (fun k => False ∨ al.ownBlock = some k) (.slice qv F.length cv2) F ∧ Fm wr (fun k => k = pf ∨ al.ownBlock = some k) pf (heldOf bad rest) bad ∧ wr.ownsRow w7.heap.size 5 1 al (F.take k).flatten.length ((F.take k).flatten.map (.int .u8)))
        (fun _ i _ => (F.length - intOf i).toNat)
      case atStart => exact ⟨0, Nat.zero_le _, rfl, low7, Nat.le_refl _, hav0, hf0, World.ownsRow_nil _ _ _ _⟩
      case round =>
        obtain ⟨k, hk, rfl, low, hsz, hfsr, hfmr, hrow⟩ := hrel
        clear hf7 hg7 hav7 hav0 hf0 hbc
        by_cases hkn : k < F.length
        · obtain ⟨f, hfv⟩ : ∃ f, F[k]? = some f := ⟨_, List.getElem?_eq_getElem hkn⟩
          have hfsr0 := hfsr
          obtain ⟨p1, k1, e1, _, hfx⟩ := hfsr
          cases e1
          obtain ⟨b, off, rfl, hb1, hb2, hb3⟩ := hfx (by intro e; simp [e] at hkn)
          obtain ⟨u, hu, hub⟩ := hb3 k f hfv
          have hka : (k : Int) < (F.length : Int) := by omega
          have hub0 := hub
          obtain ⟨qu, cu, rfl⟩ := hub.form
          have hf8 := h8 f (List.mem_of_getElem? hfv)
          have hf8' : (8 : Int) ≤ (f.length : Int) := by omega
          have hlt' : (F.take k).flatten.length + f.length ≤ 3000 := by
            have h1 := total_take_succ F k f hfv
            have h2 := total_take_le F (k + 1)
            have h3 := total_flatten (F.take k)
            have h4 := total_flatten F
            omega
          have hsn : (F.take (k + 1)).flatten = (F.take k).flatten ++ f := by rw [List.take_add_one, hfv]; simp
          clear hb3 hfx
          go_wp2_with (at_builtin; refine wpList_append_bs _ rfl (.tmp 93) (.tmp 97) rfl w7.heap.size _ _ _ rfl hrow _ f _ rfl hub0 (by omega) hsz ?_; intro v2 w2 hown2 hg2 ho2)
          replace hg2 : wr.grownBy w2 u13.ownBlock := hg2
          replace ho2 : v2.ownBlock = u13.ownBlock ∨ v2.ownBlock = some wr.heap.size := ho2
          have hne : u13.ownBlock ≠ some pf := fun e => by have := (World.ownsRow.lt hrow pf e).1; omega
          have hfs2 := Fs.grow (A := fun _ => False) hfsr0 hg2 ho2
          have hfm2 := Fm.grow (A := fun k => k = pf) hfmr rfl hne hg2 ho2
          have low2 := below_ext low (grow_ext hg2) (fun k hk => by have := (World.ownsRow.lt hrow k hk).1; have := low7.size; omega) low.size
          have hown2' : w2.ownsRow w7.heap.size 5 1 v2 (F.take (k + 1)).flatten.length ((F.take (k + 1)).flatten.map (.int .u8)) := by
            rw [hsn, List.length_append, List.map_append]; exact hown2
          go_wp2_with fail
          go_roundw
          case rel => exact ⟨k + 1, by omega, by go_num, low2, Nat.le_trans hsz hg2.size, hfs2, hfm2, hown2'⟩
          case measure => simp [intOf]; omega
        · have he : k = F.length := by omega
          subst he
          rw [List.take_length] at hrow
          have hOw : Own5 wr w7.heap.size u13 F.flatten := hrow
          have hball := hOw.bs
          have hbst0 : Bs wr (fun k => w.heap.size ≤ k) (.slice qs s.length c1) s := hs0.belowA low
          have hst : s.take F.flatten.length = F.flatten := by rw [← heq]; exact List.take_left
          have hbst := hbst0.front2 F.flatten.length (by omega)
          rw [hst] at hbst
          obtain ⟨q13, c13, rfl⟩ := row_slice hrow
          have hcs : s.length ≤ c1 := by
            obtain ⟨q0, c0, e0, hc0, _⟩ := hs0
            cases e0; exact hc0
          have hi1 : ((F.flatten.length : Nat) : Int) + (rest.length : Int) = (s.length : Int) := by omega
          have hi2 : ((F.flatten.length : Nat) : Int) ≤ (s.length : Int) := by omega
          have hi3 : ((F.flatten.length : Nat) : Int) ≤ (c1 : Int) := by omega
          generalize hGl : F.flatten = G at *
          cases bad with
          | true =>
            simp only [heldOf] at hfmr
            go_wp2_with fail
            go_at_call 15
            refine (failed_ok hfmr).mono ?_
            rintro e w8 ⟨rfl, hw8⟩
            have hw8 := hw8.symm
            subst hw8
            go_wp2_with fail
            go_at_call 13
            refine (held_ok hfmr).mono ?_
            rintro e w8 ⟨rfl, hw8⟩
            have hw8 := hw8.symm
            subst hw8
            go_wp2_with fail
            go_at_call 18
            refine (bytes_eq _ _ G G _ _ _ hball hbst (by omega)).mono ?_
            rintro e w9 ⟨rfl, n9, hw9⟩
            rw [decide_eq_true (rfl : G = G)]
            have low9 : Below w.heap.size w w9 := by rw [hw9]; exact ⟨low.os, low.tape, low.output, low.size, low.block⟩
            clear hw9
            go_wp2_with fail
            go_at_call 8
            refine (sureEnd _ low9).mono ?_
            rintro e w9 ⟨rfl, hB⟩
            go_wp2
            go_ret
            exact ⟨rfl, hB⟩
          | false =>
            simp only [heldOf] at hfmr
            have hh := hheld rfl
            have hh' : (rest.length : Int) ≤ 65534 := by omega
            go_wp2_with fail
            go_at_call 15
            refine (failed_ok hfmr).mono ?_
            rintro e w8 ⟨rfl, hw8⟩
            have hw8 := hw8.symm
            subst hw8
            go_wp2_with fail
            go_at_call 13
            refine (held_ok hfmr).mono ?_
            rintro e w8 ⟨rfl, hw8⟩
            have hw8 := hw8.symm
            subst hw8
            go_wp2_with fail
            go_at_call 13
            refine (held_ok hfmr).mono ?_
            rintro e w8 ⟨rfl, hw8⟩
            have hw8 := hw8.symm
            subst hw8
            go_wp2_with fail
            go_at_call 18
            refine (bytes_eq _ _ G G _ _ _ hball hbst (by omega)).mono ?_
            rintro e w9 ⟨rfl, n9, hw9⟩
            rw [decide_eq_true (rfl : G = G)]
            have low9 : Below w.heap.size w w9 := by rw [hw9]; exact ⟨low.os, low.tape, low.output, low.size, low.block⟩
            clear hw9
            go_wp2_with fail
            go_at_call 8
            refine (sureEnd _ low9).mono ?_
            rintro e w9 ⟨rfl, hB⟩
            go_wp2
            go_ret
            exact ⟨rfl, hB⟩
end Go.Proofs.Ytlacngdbembkkaa
