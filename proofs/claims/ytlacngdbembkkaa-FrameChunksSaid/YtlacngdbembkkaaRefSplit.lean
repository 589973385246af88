/- The document's Split. -/
import Derived.Test.YtlacngdbembkkaaSame
namespace Go.Proofs.Ytlacngdbembkkaa
open Go.RowKit

theorem Bs.front {w : World} {Av : Nat → Prop} {b off n cap c : Nat} {l : List Int} (h : Bs w Av (.slice (some ⟨b, off, none⟩) n cap) l) (k : Nat) (hk : k ≤ l.length) (hc : k ≤ c) : Bs w Av (.slice (some ⟨b, off, none⟩) k c) (l.take k) := by
  obtain ⟨p, cap', e, hcp, hb⟩ := h
  cases e
  refine ⟨some ⟨b, off, none⟩, c, by rw [List.length_take, Nat.min_eq_left hk], by rw [List.length_take]; omega, fun hne => ?_⟩
  obtain ⟨b', off', e, h1, h2, h3⟩ := hb (by rintro rfl; simp at hne)
  cases e
  refine ⟨b, off, rfl, h1, h2, fun j x hj => ?_⟩
  rw [List.getElem?_take] at hj
  split at hj
  · exact h3 j x hj
  · cases hj

theorem row_slice {w : World} {B e s n : Nat} {v : Value} {xs : List Value} (h : w.ownsRow B e s v n xs) : ∃ q c, v = .slice q n c := by
  rcases h.2 with ⟨rfl, h0⟩ | ⟨g, cap, cur, rfl, _⟩
  · exact ⟨none, 0, by rw [h0]⟩
  · exact ⟨_, cap, rfl⟩

theorem Fr27.push {W W1 W2 : World} {B n0 : Nat} {vf vf' u : Value} {us : List Value} {fs : List (List Int)} {f : List Int} {tmp : Obj} (hrow : W.ownsRow B 27 1 vf fs.length us) (hlen : us.length = fs.length) (hu : ∀ (j : Nat) (x : List Int), fs[j]? = some x → ∃ u, us[j]? = some u ∧ Own5 W B u x)
    (hB1 : Below W.heap.size W W1) (hown1 : Own5 W1 n0 u f) (hn0 : B ≤ n0) (hgrow : (W1.alloc tmp).grownBy W2 vf.ownBlock) (hown2 : W2.ownsRow B 27 1 vf' (fs.length + 1) (us ++ [u])) : Fr27 W2 B vf' (fs ++ [f]) := by
  have hrow1 : W1.ownsRow B 27 1 vf fs.length us := ownsRow.below hB1 hrow (fun k hk => (World.ownsRow.lt hrow k hk).2)
  have lift : ∀ (n0 : Nat) (v : Value) (x : List Int), W1.ownsRow n0 5 1 v x.length (x.map (.int .u8)) → B ≤ n0 → Own5 W2 B v x := fun n0 v x ho hn =>
    Own5.mono (B := n0) ((ho.alloc tmp).kept hgrow (row_ne (ho.alloc tmp) (hrow1.alloc tmp) (by decide))) hn
  refine ⟨us ++ [u], by rw [show (fs ++ [f]).length = fs.length + 1 by simp]; exact hown2, by simp [hlen], fun j x hj => ?_⟩
  by_cases hjl : j < fs.length
  · rw [List.getElem?_append_left hjl] at hj
    obtain ⟨u', hu', ho'⟩ := hu j x hj
    exact ⟨u', by rw [List.getElem?_append_left (by rw [hlen]; exact hjl)]; exact hu', lift B u' x (ownsRow.below hB1 ho' (fun k hk => (World.ownsRow.lt ho' k hk).2)) (Nat.le_refl _)⟩
  · have hjl2 : j < (fs ++ [f]).length := (List.getElem?_eq_some_iff.1 hj).1
    simp at hjl2
    obtain rfl : j = fs.length := by omega
    simp at hj
    subst hj
    exact ⟨u, by rw [← hlen]; simp, lift n0 u f hown1 hn0⟩

set_option maxHeartbeats 3200000 in
theorem refSplit_ok {w : World} {Av : Nat → Prop} {v : Value} {l : List Int} (h : Bs w Av v l) (hby : Byt l) (hn : l.length ≤ 1000000) :
    Calls Try.prog 17 #[v] w fun e w' => ∃ fv lv, e = .returned (.tuple #[fv, lv, .bool (splitL l).2.2]) ∧ Fr27 w' w.heap.size fv (splitL l).1 ∧ Bs w Av lv (splitL l).2.1 ∧ Below w.heap.size w w' := by
  have h0 := h
  obtain ⟨q, cap, rfl, hcap, _⟩ := h
  go_enter Try.func17, Try.ntmps17
  go_wp2_with fail
  go_loopw [0, 5] (fun a o wr => ∃ pre rest, Bs w Av a rest ∧ Byt rest ∧ rest.length ≤ l.length ∧ splitL l = (pre ++ (splitL rest).1, (splitL rest).2.1, (splitL rest).2.2) ∧ Fr27 wr w.heap.size o pre ∧ Below w.heap.size w wr)
    (fun a _ _ => match a with | .slice _ n _ => n | _ => 0)
  case atStart => exact ⟨[], l, h0, hby, Nat.le_refl _, by simp, ⟨[], World.ownsRow_nil _ _ _ _, rfl, fun j x hj => by simp at hj⟩, Below.refl _ _⟩
  case round =>
    obtain ⟨pre, rest, hbs, hbyt, hlen, hsum, hfr, hB⟩ := hrel
    have hbs0 := hbs
    obtain ⟨p, cp, rfl, hcp, hbs⟩ := hbs
    by_cases h4 : rest.length < 4
    · have hs := split_short h4
      rw [hs] at hsum
      simp only [List.append_nil] at hsum
      go_wp2
      go_ret3
      exact ⟨_, _, by rw [hsum]; rfl, by rw [hsum]; exact hfr, by rw [hsum]; exact hbs0, hB⟩
    · obtain ⟨b, off, rfl, g1, g2, g3⟩ := hbs (by intro e; simp [e] at h4)
      obtain ⟨x2, hx2⟩ : ∃ x, rest[2]? = some x := ⟨_, List.getElem?_eq_getElem (by omega)⟩
      obtain ⟨x3, hx3⟩ : ∃ x, rest[3]? = some x := ⟨_, List.getElem?_eq_getElem (by omega)⟩
      have c2 : wr.cell? ⟨b, off + 2, none⟩ = some (.int .u8 x2) := (World.cell?_of_block (hB.block b (by omega))).trans (g3 2 x2 hx2)
      have c3 : wr.cell? ⟨b, off + 2 + 1, none⟩ = some (.int .u8 x3) := (World.cell?_of_block (hB.block b (by omega))).trans (g3 3 x3 hx3)
      obtain ⟨b20, b21⟩ := hbyt x2 (List.mem_of_getElem? hx2)
      obtain ⟨b30, b31⟩ := hbyt x3 (List.mem_of_getElem? hx3)
      have hv := fun cap => value_ok wr b (off + 2) cap x2 x3 c2 c3 b20 b21 b30 b31
      have htold : ((told rest : Nat) : Int) = x2 * 256 + x3 := by
        simp only [told, List.getD, hx2, hx3, Option.getD_some]; omega
      have h4' : (4 : Int) ≤ (rest.length : Int) := by omega
      have hc4 : (4 : Int) ≤ (cp : Int) := by omega
      have hc2 : (2 : Int) < (cp : Int) := by omega
      have hsb := fun h8 => split_bad (b := rest) h4 h8
      have hsw := fun h8 hl => split_wait (b := rest) h4 h8 hl
      have hsc := fun h8 hl => split_cut (b := rest) h4 h8 hl
      have hcutA := fun hk h0 => Bs.cut hbs0 (told rest) hk h0
      generalize told rest = k at *
      have hk63 : (k : Int) ≤ 65535 := by omega
      rw [← htold] at hv
      clear g3 hx2 hx3 htold hbs
      by_cases h8 : k < 8
      · have h8' : (k : Int) < 8 := by omega
        have hs := hsb h8
        rw [hs] at hsum
        simp only [List.append_nil] at hsum
        go_wp2_with (go_at_call 25; refine (hv _).mono ?_; rintro e w' ⟨rfl, rfl⟩)
        go_ret3
        exact ⟨_, _, by rw [hsum]; rfl, by rw [hsum]; exact hfr, by rw [hsum]; exact hbs0, hB⟩
      · have h8' : (8 : Int) ≤ (k : Int) := by omega
        by_cases hkl : rest.length < k
        · have hkl' : (rest.length : Int) < (k : Int) := by omega
          have hs := hsw h8 hkl
          rw [hs] at hsum
          simp only [List.append_nil] at hsum
          go_wp2_with (go_at_call 25; refine (hv _).mono ?_; rintro e w' ⟨rfl, rfl⟩)
          go_ret3
          exact ⟨_, _, by rw [hsum]; rfl, by rw [hsum]; exact hfr, by rw [hsum]; exact hbs0, hB⟩
        · have hkl' : (k : Int) ≤ (rest.length : Int) := by omega
          have hkc : (k : Int) ≤ (cp : Int) := by omega
          obtain ⟨us, hrow, hus, hu⟩ := hfr
          obtain ⟨i0, hi, hz0, hz1, hz2⟩ := info_parts Try.info27
          have hcount : pre.length ≤ 1000000 := by
            have h5 := splitL_count l.length l (Nat.le_refl _)
            rw [hsum] at h5
            simp at h5
            omega
          have hown0 : (wr.alloc (.cells #[] 5)).ownsRow wr.heap.size 5 1 (.slice (some ⟨wr.heap.size, 0, none⟩) 0 0) 0 [] := World.ownsRow_lit wr #[] 0 (Nat.le_refl _) (by decide) rfl
          have hfront : Bs (wr.alloc (.cells #[] 5)) Av (.slice (some ⟨b, off, none⟩) k cp) (rest.take k) := ((hbs0.belowA hB).front k (by omega) (by omega)).keep ((Ext.refl (fun _ => False) wr).alloc _) (fun _ _ h => h.elim)
          have htk : (rest.take k).length = k := by rw [List.length_take]; omega
          go_wp2_with (first
            | (go_at_call 25; refine (hv _).mono ?_; rintro e w' ⟨rfl, hww⟩; have hww := hww.symm; subst hww)
            | (at_builtin; refine wpList_append_bs _ rfl (.tmp 25) (.tmp 28) rfl wr.heap.size _ _ _ rfl hown0 _ (rest.take k) Av rfl hfront (by omega) (by simp) ?_; intro v' w1 hown1 hgrow1 _; replace hgrow1 : (wr.alloc (.cells #[] 5)).grownBy w1 (some wr.heap.size) := hgrow1; simp only [Nat.zero_add, List.nil_append, htk] at hown1; obtain ⟨q1, c1, rfl⟩ := row_slice hown1; have hB1 : Below wr.heap.size wr w1 := ((Below.refl _ _).alloc (Nat.le_refl _) _).grown hgrow1 (by simp) (fun k hk => by cases hk; exact Nat.le_refl _); have hrow1 := (ownsRow.below hB1 hrow (fun k hk => (World.ownsRow.lt hrow k hk).2)).alloc (.cells #[.slice q1 k c1] 27))
            | (at_builtin; refine wpList_append_own _ rfl (.tmp 24) (.tmp 30) _ rfl w.heap.size 27 i0 (.slice none 0 0) 1 24 Try.underlying22 hi hz0 hz1 hz2 rfl (by decide) _ _ _ rfl hrow1 ⟨w1.heap.size, 0, none⟩ 1 1 [.slice q1 k c1] rfl rfl (cell_one_new _ _ _) (by simp [Value.oneCell']) (by unfold maxLen; omega) (by omega) (by have := hB1.size; have := hB.size; simp; omega) ?_; intro vf' w2 hown2 hgrow2 _))
          replace hgrow2 : (w1.alloc (.cells #[.slice q1 k c1] 27)).grownBy w2 u5.ownBlock := hgrow2
          refine ⟨⟨pre ++ [rest.take k], rest.drop k, ?_, hbyt.drop _, by simp; omega, ?_, ?_, ?_⟩, ?_⟩
          · obtain ⟨_, hlf⟩ := hcutA (by omega) (by omega)
            by_cases hcz : cp = k
            · have hrl : rest.length = k := by omega
              rw [if_pos hrl] at hlf
              rw [if_pos hcz, hrl, hcz, Nat.sub_self]
              exact hlf
            · rw [if_neg hcz]
              by_cases hrk : rest.length = k
              · exact ⟨_, cp - k, by rw [List.length_drop], by rw [List.length_drop]; omega, fun hne => absurd (List.length_eq_zero_iff.1 (by rw [List.length_drop]; omega)) hne⟩
              · rwa [if_neg hrk] at hlf
          · rw [hsum, hsc (by omega) (by omega)]; simp
          · exact Fr27.push hrow hus hu hB1 (n0 := wr.heap.size) (show w1.ownsRow _ _ _ _ _ _ by rw [htk]; exact hown1) hB.size hgrow2 hown2
          · exact ((hB.trans (hB1.mono hB.size)).alloc (Nat.le_trans hB.size hB1.size) _).grown hgrow2 (by have := hB.size; have := hB1.size; simp; omega) (fun j hj => (World.ownsRow.lt hrow j hj).1)
          · simp only; omega
end Go.Proofs.Ytlacngdbembkkaa
