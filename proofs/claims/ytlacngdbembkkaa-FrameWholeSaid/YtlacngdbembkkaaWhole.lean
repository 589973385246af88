/- FrameWhole. -/
import Derived.Test.YtlacngdbembkkaaApart
namespace Go.Proofs.Ytlacngdbembkkaa
open Go.RowKit Go.Shelf

/-- A frame with this body. -/
def mkf (b : List Int) : List Int := [1, 2, ((8 + b.length : Nat) : Int) / 256, ((8 + b.length : Nat) : Int) % 256, 3, 4, 5, 6] ++ b
theorem mkf_len (b : List Int) : (mkf b).length = 8 + b.length := by simp [mkf]; omega
theorem mkf_told (b c : List Int) : told (mkf b ++ c) = 8 + b.length := by
  have h2 : (mkf b ++ c).getD 2 0 = ((8 + b.length : Nat) : Int) / 256 := by simp [mkf]
  have h3 : (mkf b ++ c).getD 3 0 = ((8 + b.length : Nat) : Int) % 256 := by simp [mkf]
  simp only [told, h2, h3]
  omega
theorem mkf_byt {b : List Int} (h : Byt b) (hl : b.length ≤ 65000) : Byt (mkf b) := by
  intro x hx
  simp only [mkf, List.mem_append, List.mem_cons, List.not_mem_nil, or_false] at hx
  rcases hx with (rfl | rfl | rfl | rfl | rfl | rfl | rfl | rfl) | hx <;> first | omega | exact h x hx

theorem split_mk (tail : List Int) (ht : tail.length ≤ 3) : ∀ bs : List (List Int), splitL ((bs.map mkf).flatten ++ tail) = (bs.map mkf, tail, false)
  | [] => by simpa using split_short (b := tail) (by omega)
  | b :: bs => by
    have ih := split_mk tail ht bs
    simp only [List.map_cons, List.flatten_cons, List.append_assoc]
    have hl : (mkf b ++ ((bs.map mkf).flatten ++ tail)).length = 8 + b.length + ((bs.map mkf).flatten ++ tail).length := by rw [List.length_append, mkf_len]
    have htd := mkf_told b ((bs.map mkf).flatten ++ tail)
    rw [split_cut (by omega) (by omega) (by omega), htd]
    have hd : (mkf b ++ ((bs.map mkf).flatten ++ tail)).drop (8 + b.length) = (bs.map mkf).flatten ++ tail := by rw [← mkf_len b, List.drop_left]
    have hk : (mkf b ++ ((bs.map mkf).flatten ++ tail)).take (8 + b.length) = mkf b := by rw [← mkf_len b, List.take_left]
    rw [hd, hk, ih]

theorem mkf_total : ∀ l : List (List Int), (l.map mkf).flatten.length = total l + 8 * l.length
  | [] => rfl
  | x :: l => by
    have := mkf_total l
    simp only [List.map_cons, List.flatten_cons, List.length_append, mkf_len, List.length_cons]
    simp only [total, List.map_cons, List.sum_cons] at this ⊢
    omega

theorem Fm.keep_nil {w w' : World} {Av S : Nat → Prop} {p : Nat} {failed : Bool} (h : Fm w Av p [] failed) (hx : Ext S w w') (hp : ¬ S p) : Fm w' Av p [] failed := by
  obtain ⟨hv, h0, hb⟩ := h.c0
  obtain ⟨q, c, e, hc, _⟩ := hb
  exact ⟨⟨hv, (hx.cell (p := ⟨p, 0, none⟩) h.lt hp).trans h0, ⟨q, c, e, hc, fun hne => absurd rfl hne⟩⟩, h.avp, (hx.cell (p := ⟨p, 1, none⟩) h.lt hp).trans h.c1, (hx.cell (p := ⟨p, 2, none⟩) h.lt hp).trans h.c2, fun j => (hx.frozen (p := ⟨p, j, none⟩) h.lt hp).trans (h.fz j), Nat.lt_of_lt_of_le h.lt hx.size⟩

/-- Frames that came in, and the stream: how they lie. -/
structure WS (w W : World) (p B : Nat) (iv sv : Value) (fs : List (List Int)) : Prop where
  low : Below w.heap.size w W
  hp : w.heap.size ≤ p
  hpB : p < B
  hB : B ≤ W.heap.size
  fm : Fm W (fun k => k = p) p [] false
  row : ∃ us, W.ownsRow B 27 1 iv fs.length us ∧ us.length = fs.length ∧ ∀ (j : Nat) (x : List Int), fs[j]? = some x → ∃ u, us[j]? = some u ∧ Bs W (fun k => k < B ∨ sv.ownBlock = some k ∨ iv.ownBlock = some k) u x
  srow : W.ownsRow B 5 1 sv fs.flatten.length (fs.flatten.map (.int .u8))

/-- One frame more. -/
theorem WS.push {w W W2 W4 W5 : World} {p B : Nat} {iv sv iv' sv' xv : Value} {fs : List (List Int)} {x : List Int} {us : List Value} {tmp : Obj} (h : WS w W p B iv sv fs)
    (hrow : W.ownsRow B 27 1 iv fs.length us) (hlen : us.length = fs.length) (hu : ∀ (j : Nat) (x : List Int), fs[j]? = some x → ∃ u, us[j]? = some u ∧ Bs W (fun k => k < B ∨ sv.ownBlock = some k ∨ iv.ownBlock = some k) u x)
    (hB2 : Below W.heap.size W W2) (hx : Own5 W2 W.heap.size xv x) (hg4 : (W2.alloc tmp).grownBy W4 iv.ownBlock) (hown4 : W4.ownsRow B 27 1 iv' (fs.length + 1) (us ++ [xv])) (hi : iv'.ownBlock = iv.ownBlock ∨ iv'.ownBlock = some (W2.alloc tmp).heap.size)
    (hg5 : W4.grownBy W5 sv.ownBlock) (hown5 : W5.ownsRow B 5 1 sv' (fs.flatten.length + x.length) (fs.flatten.map (.int .u8) ++ x.map (.int .u8))) (hs : sv'.ownBlock = sv.ownBlock ∨ sv'.ownBlock = some W4.heap.size) :
    WS w W5 p B iv' sv' (fs ++ [x]) := by
  have hib : ∀ k, iv.ownBlock = some k → B ≤ k ∧ k < W.heap.size := fun k hk => World.ownsRow.lt hrow k hk
  have hsb : ∀ k, sv.ownBlock = some k → B ≤ k ∧ k < W.heap.size := fun k hk => World.ownsRow.lt h.srow k hk
  have hs24 : W2.heap.size + 1 ≤ W4.heap.size := by have := hg4.size; simpa using this
  have hx24 : Ext (fun k => sv.ownBlock = some k ∨ iv.ownBlock = some k) W2 W4 := ⟨hg4.os, hg4.tape, hg4.output, by omega, fun k hk hs => (hg4.block k (by simp; omega) (fun e => hs (.inr e.symm))).trans (Below.heap_alloc W2 tmp k hk)⟩
  have hx45 : Ext (fun k => sv.ownBlock = some k ∨ iv.ownBlock = some k) W4 W5 := ⟨hg5.os, hg5.tape, hg5.output, hg5.size, fun k hk hs => hg5.block k hk (fun e => hs (.inl e.symm))⟩
  have hx25 := hx24.trans hx45
  have hx05 : Ext (fun k => sv.ownBlock = some k ∨ iv.ownBlock = some k) W W5 := (Ext.of_below hB2).trans hx25
  have hSB : ∀ k, (sv.ownBlock = some k ∨ iv.ownBlock = some k) → B ≤ k := fun k hk => by rcases hk with h | h; exact (hsb k h).1; exact (hib k h).1
  have hpB := h.hpB
  have hwp := h.hp
  have hav : ∀ k, (sv'.ownBlock = some k ∨ iv'.ownBlock = some k) → (sv.ownBlock = some k ∨ iv.ownBlock = some k) ∨ W2.heap.size ≤ k := fun k hk => by
    rcases hk with hk | hk
    · rcases hs with e | e
      · exact .inl (.inl (by rw [← e]; exact hk))
      · rw [e] at hk; cases hk; exact .inr (by omega)
    · rcases hi with e | e
      · exact .inl (.inr (by rw [← e]; exact hk))
      · rw [e] at hk; cases hk; exact .inr (by simp)
  refine ⟨below_ext h.low hx05 (fun k hk => by have := hSB k hk; omega) h.low.size, h.hp, h.hpB, Nat.le_trans h.hB hx05.size, ?_, ⟨us ++ [xv], ?_, by simp [hlen], fun j y hj => ?_⟩, ?_⟩
  · obtain ⟨hv, h0, hb⟩ := h.fm.c0
    obtain ⟨q, c, e, hc, _⟩ := hb
    have hkk : ∀ j, W5.cell? ⟨p, j, none⟩ = W.cell? ⟨p, j, none⟩ := fun j => hx05.cell (p := ⟨p, j, none⟩) h.fm.lt (fun s => by have := hSB p s; omega)
    exact ⟨⟨hv, (hkk 0).trans h0, ⟨q, c, e, hc, fun hne => absurd rfl hne⟩⟩, rfl, (hkk 1).trans h.fm.c1, (hkk 2).trans h.fm.c2, fun j => (hx05.frozen (p := ⟨p, j, none⟩) h.fm.lt (fun s => by have := hSB p s; omega)).trans (h.fm.fz j), Nat.lt_of_lt_of_le h.fm.lt hx05.size⟩
  · have h27 : W5.ownsRow B 27 1 iv' (fs.length + 1) (us ++ [xv]) := by
      refine hown4.kept hg5 ?_
      have hs4 : W4.ownsRow B 5 1 sv fs.flatten.length (fs.flatten.map (.int .u8)) := by
        have h2 := (ownsRow.below hB2 h.srow (fun k hk => (hsb k hk).2)).alloc tmp
        have i2 := (ownsRow.below hB2 hrow (fun k hk => (hib k hk).2)).alloc tmp
        exact h2.kept hg4 (row_ne h2 i2 (by decide))
      exact row_ne hown4 hs4 (by decide)
    rw [show (fs ++ [x]).length = fs.length + 1 by simp]
    exact h27
  · by_cases hjl : j < fs.length
    · rw [List.getElem?_append_left hjl] at hj
      obtain ⟨u, hu1, hu2⟩ := hu j y hj
      refine ⟨u, by rw [List.getElem?_append_left (by rw [hlen]; exact hjl)]; exact hu1, ?_⟩
      exact ((hu2.mono (Av' := fun k => (k < B ∨ sv.ownBlock = some k ∨ iv.ownBlock = some k) ∨ W2.heap.size ≤ k) (fun k hk hh => hh.resolve_right (by have := hB2.size; omega))).keep hx05 (fun _ _ hh => .inl (.inr hh))).mono (fun k _ hh => by rcases hh with hh | hh; exact .inl (.inl hh); rcases hav k hh with e | e; exact .inl (.inr e); exact .inr e)
    · have hjl2 : j < (fs ++ [x]).length := (List.getElem?_eq_some_iff.1 hj).1
      simp at hjl2
      obtain rfl : j = fs.length := by omega
      simp at hj
      subst hj
      refine ⟨xv, by rw [← hlen]; simp, ?_⟩
      have hBW := h.hB
      have hb : Bs W2 (fun k => (k < B ∨ sv.ownBlock = some k ∨ iv.ownBlock = some k) ∨ W2.heap.size ≤ k) xv x := hx.bs.mono fun k hk hh => by
        rcases hh with (hh | hh | hh) | hh
        · omega
        · exact (hsb k hh).2
        · exact (hib k hh).2
        · omega
      exact (hb.keep hx25 (fun _ _ hh => .inl (.inr hh))).mono (fun k _ hh => by rcases hh with hh | hh; exact .inl (.inl hh); rcases hav k hh with e | e; exact .inl (.inr e); exact .inr e)
  · simp only [List.flatten_append, List.flatten_cons, List.flatten_nil, List.append_nil, List.length_append, List.map_append]
    exact hown5

theorem WS.fs {w W : World} {p B : Nat} {iv sv : Value} {fs : List (List Int)} (h : WS w W p B iv sv fs) : Fs W (fun k => k = p ∨ sv.ownBlock = some k) iv fs := by
  obtain ⟨us, hrow, hlen, hu⟩ := h.row
  have hpB := h.hpB
  rcases hrow.2 with ⟨rfl, h0⟩ | ⟨g, cap, cur, rfl, hb, hg, hc, hm, hsz, ht⟩
  · exact ⟨none, 0, by rw [h0], by omega, fun hl => absurd (List.length_eq_zero_iff.1 h0) hl⟩
  · refine ⟨some ⟨g, 0, none⟩, cap, rfl, hc, fun _ => ⟨g, 0, rfl, ?_, lt_of_block hg, fun j x hj => ?_⟩⟩
    · rintro (e | e)
      · omega
      · rcases row_ne h.srow hrow (by decide) with e2 | e2
        · rw [e2] at e; cases e
        · exact e2 e
    · obtain ⟨u, hu1, hu2⟩ := hu j x hj
      refine ⟨u, by rw [Nat.zero_add]; exact ownsRow_cell hrow j u hu1, hu2.mono fun k _ hh => ?_⟩
      rcases hh with hh | hh
      · exact .inl (by omega)
      · exact .inr (.inl hh)

set_option maxHeartbeats 6400000 in
theorem whole_ok {w : World} {v tv : Value} {l : List (List Int)} {tl : List Int} (h : Fs w (fun k => w.heap.size ≤ k) v l) (hn : l.length ≤ 9223372036854775807) (hb : ∀ x ∈ l, x.length ≤ 140737488355328) (hby : ∀ x ∈ l, Byt x)
    (ht : Bs w (fun k => w.heap.size ≤ k) tv tl) (htl : tl.length ≤ 140737488355328) (htb : Byt tl) :
    Calls Try.prog 5 #[v, tv] w fun e w' => e = .returned (.bool true) ∧ Below w.heap.size w w' := by
  have hfew := few_ok h hn hb
  have h0 := h
  have ht0 := ht
  obtain ⟨q, cap, rfl, hcap, _⟩ := h
  obtain ⟨qt, ct, rfl⟩ := ht.form
  go_enter Try.func5, Try.ntmps5
  go_wp2_with fail
  go_at_call 7
  refine hfew.mono ?_
  rintro e w0 ⟨fb, rfl, hw, hfb⟩
  have hw := hw.symm
  subst hw
  have sureEnd : ∀ W, Below w.heap.size w W → Calls Try.prog 8 #[] W fun e w' => e = .returned (.bool true) ∧ Below w.heap.size w w' := fun W hW => (sure_ok W).mono fun e w' ⟨he, hB⟩ => ⟨he, hW.trans (hB.mono hW.size)⟩
  cases fb with
  | false =>
    go_wp2_with fail
    go_at_call 8
    refine (sureEnd _ (Below.refl _ _)).mono ?_
    rintro e w1 ⟨rfl, hB⟩
    go_wp2
    go_ret
    exact ⟨rfl, hB⟩
  | true =>
    obtain ⟨h60, h3000⟩ := hfb rfl
    by_cases hab : 3 < tl.length
    · have hab' : (3 : Int) < (tl.length : Int) := by omega
      go_wp2_with fail
      go_at_call 8
      refine (sureEnd _ (Below.refl _ _)).mono ?_
      rintro e w1 ⟨rfl, hB⟩
      go_wp2
      go_ret
      exact ⟨rfl, hB⟩
    · have hab' : ¬ (3 : Int) < (tl.length : Int) := by omega
      go_wp2_with fail
      go_at_call 9
      refine (new_ok w).mono ?_
      rintro e w1 ⟨rfl, hnew1, hB1⟩
      obtain ⟨pf, hpf⟩ : ∃ pf, pf = w.heap.size := ⟨_, rfl⟩
      rw [← hpf] at hnew1
      have hf1 := hnew1 (fun k => k = pf) rfl
      rw [← hpf]
      have hple : w.heap.size ≤ pf := Nat.le_of_eq hpf.symm
      clear hnew1 hpf hfb hw hfew
      go_wp2_with fail
      go_loopw [6, 7, 8] (fun iv sv i wr => ∃ (k : Nat), k ≤ l.length ∧ i = .int .i64 k ∧ WS w wr pf w1.heap.size iv sv ((l.take k).map mkf))
        (fun _ _ i _ => (l.length - intOf i).toNat)
      case atStart =>
        exact ⟨0, Nat.zero_le _, rfl, ⟨hB1, hple, hf1.lt, Nat.le_refl _, hf1, ⟨[], World.ownsRow_nil _ _ _ _, rfl, fun j x hj => by simp at hj⟩, World.ownsRow_nil _ _ _ _⟩⟩
      case round =>
        obtain ⟨k, hk, rfl, hS⟩ := hrel
        by_cases hkn : k < l.length
        · obtain ⟨x, hx⟩ : ∃ x, l[k]? = some x := ⟨_, List.getElem?_eq_getElem hkn⟩
          obtain ⟨p0, cp0, e0, _, g⟩ := h0.mono (Av' := fun k => w.heap.size ≤ k) (fun _ _ h => h)
          cases e0
          obtain ⟨b0, off, rfl, g1, g2, g3⟩ := g (by intro e; simp [e] at hkn)
          obtain ⟨u, hu, hub⟩ := g3 k x hx
          obtain ⟨qu, cu, rfl⟩ := hub.form
          have hur : wr.cell? ⟨b0, off + k, none⟩ = some (.slice qu x.length cu) := (hS.low.cell (p := ⟨b0, off + k, none⟩) g2).trans hu
          have hubr : Bs wr (fun k => w.heap.size ≤ k) (.slice qu x.length cu) x := hub.belowA hS.low
          have hka : (k : Int) < (l.length : Int) := by omega
          have hxb := hby x (List.mem_of_getElem? hx)
          have hxl : x.length ≤ 3000 := by
            have h1 := total_take_succ l k x hx
            have h2 := total_take_le l (k + 1)
            omega
          clear g g3
          have hn63 : (8 : Int) + (x.length : Int) ≤ 4000 := by omega
          obtain ⟨us, hrow, hus, husu⟩ := hS.row
          have hb0lt : b0 < wr.heap.size := Nat.lt_of_lt_of_le g2 hS.low.size
          have hua : ∀ o, (wr.alloc o).cell? ⟨b0, off + k, none⟩ = some (.slice qu x.length cu) := fun o => (((Below.refl wr.heap.size wr).alloc (Nat.le_refl _) o).cell (p := ⟨b0, off + k, none⟩) hb0lt).trans hur
          have hub1 : ∀ o, Bs (wr.alloc o) (fun k => w.heap.size ≤ k) (.slice qu x.length cu) x := fun o => hubr.keep ((Ext.refl (fun _ => False) wr).alloc o) (fun _ _ h => h.elim)
          have hlit : (wr.alloc (.cells #[.int .u8 1, .int .u8 2, .int .u8 ((8 + (x.length : Int)) / 256), .int .u8 ((8 + (x.length : Int)) % 256), .int .u8 3, .int .u8 4, .int .u8 5, .int .u8 6] 5)).ownsRow wr.heap.size 5 1 (.slice (some ⟨wr.heap.size, 0, none⟩) 8 8) 8
              [.int .u8 1, .int .u8 2, .int .u8 ((8 + (x.length : Int)) / 256), .int .u8 ((8 + (x.length : Int)) % 256), .int .u8 3, .int .u8 4, .int .u8 5, .int .u8 6] :=
            World.ownsRow_lit wr #[.int .u8 1, .int .u8 2, .int .u8 ((8 + (x.length : Int)) / 256), .int .u8 ((8 + (x.length : Int)) % 256), .int .u8 3, .int .u8 4, .int .u8 5, .int .u8 6] 8 (Nat.le_refl _) (by decide) rfl
          obtain ⟨i0, hi, hz0, hz1, hz2⟩ := info_parts Try.info27
          have hlen60 : ((l.take k).map mkf).length ≤ 60 := by simp; omega
          have hfl : ((l.take k).map mkf).flatten.length ≤ 5000 := by
            have h1 := total_take_le l k
            have h2 := mkf_total (l.take k)
            have h3 : (l.take k).length ≤ 60 := by simp; omega
            omega
          have hmk : (mkf x).map (Value.int .u8) = [.int .u8 1, .int .u8 2, .int .u8 ((8 + (x.length : Int)) / 256), .int .u8 ((8 + (x.length : Int)) % 256), .int .u8 3, .int .u8 4, .int .u8 5, .int .u8 6] ++ x.map (.int .u8) := by simp [mkf]
          go_wp2_with (first
            | (at_builtin; refine wpList_append_bs _ rfl (.tmp 43) (.tmp 47) rfl wr.heap.size _ _ _ rfl hlit _ x _ rfl (hub1 _) (by omega) (by simp) ?_; intro v2 w2 hown2 hg2 _; obtain ⟨qx, cx, rfl⟩ := row_slice hown2; replace hg2 : (wr.alloc (.cells #[.int .u8 1, .int .u8 2, .int .u8 ((8 + (x.length : Int)) / 256), .int .u8 ((8 + (x.length : Int)) % 256), .int .u8 3, .int .u8 4, .int .u8 5, .int .u8 6] 5)).grownBy w2 (some wr.heap.size) := hg2; have hB2 : Below wr.heap.size wr w2 := ((Below.refl _ _).alloc (Nat.le_refl _) _).grown hg2 (by simp) (fun k hk => by cases hk; exact Nat.le_refl _); have hx2 : Own5 w2 wr.heap.size (.slice qx (8 + x.length) cx) (mkf x) := (by show World.ownsRow _ _ _ _ _ _ _; rw [mkf_len, hmk]; exact hown2); have hrow2 := (ownsRow.below hB2 hrow (fun k hk => (World.ownsRow.lt hrow k hk).2)).alloc (.cells #[.slice qx (8 + x.length) cx] 27))
            | (at_builtin; refine wpList_append_own_at _ rfl (.tmp 49) (.tmp 51) 22 rfl w1.heap.size 27 i0 (.slice none 0 0) 1 24 Try.underlying22 hi hz0 hz1 hz2 rfl (by decide) _ _ _ rfl hrow2 ⟨w2.heap.size, 0, none⟩ 1 1 [.slice qx (8 + x.length) cx] rfl rfl (cell_one_new _ _ _) (by simp [Value.oneCell']) (by unfold maxLen; omega) (by omega) (by have := hB2.size; have := hS.hB; simp; omega) ?_; intro v4 w4 hown4 hg4 _ hi4; replace hg4 : (w2.alloc (.cells #[.slice qx (8 + x.length) cx] 27)).grownBy w4 u6.ownBlock := hg4; have hs2 := (ownsRow.below hB2 hS.srow (fun k hk => (World.ownsRow.lt hS.srow k hk).2)).alloc (.cells #[.slice qx (8 + x.length) cx] 27); have hs4 := hs2.kept hg4 (row_ne hs2 hrow2 (by decide)); have hx24 : Ext (fun k => u6.ownBlock = some k) w2 w4 := ⟨hg4.os, hg4.tape, hg4.output, (by have := hg4.size; simp at this; omega), fun k hk hs => (hg4.block k (by simp; omega) (fun e => hs e.symm)).trans (Below.heap_alloc w2 _ k hk)⟩; have hbx4 := hx2.bs.keep hx24 (fun k _ hk => (World.ownsRow.lt hrow k hk).2); have hsz4 : w1.heap.size ≤ w4.heap.size := Nat.le_trans (Nat.le_trans hS.hB hB2.size) hx24.size)
            | (at_builtin; refine wpList_append_bs _ rfl (.tmp 53) (.tmp 54) rfl w1.heap.size _ _ _ rfl hs4 _ (mkf x) _ rfl hbx4 (by rw [mkf_len]; omega) hsz4 ?_; intro v5 w5 hown5 hg5 hs5))
          have hWS := WS.push hS hrow hus husu hB2 hx2 hg4 hown4 hi4 hg5 hown5 hs5
          have hfs : (l.take (k + 1)).map mkf = (l.take k).map mkf ++ [mkf x] := by rw [List.take_add_one, hx]; simp
          go_roundw
          case rel => exact ⟨k + 1, by omega, by go_num, by rw [hfs]; exact hWS⟩
          case measure => simp [intOf]; omega
        · have he : k = l.length := by omega
          subst he
          rw [List.take_length] at hS
          have hFl : (l.map mkf).flatten.length ≤ 5000 := by have := mkf_total l; omega
          have hF60 : (l.map mkf).length ≤ 1000000 := by simp; omega
          have hFe : ∀ f ∈ l.map mkf, f.length ≤ 1000000 := fun f hf => by
            have h3 : f.length ≤ (l.map mkf).flatten.length := (List.sublist_flatten_of_mem hf).length_le
            omega
          have hFb : Byt ((l.map mkf).flatten ++ tl) := by
            refine Byt.append (fun y hy => ?_) htb
            obtain ⟨f, hf, hyf⟩ := List.mem_flatten.1 hy
            obtain ⟨z, hz, rfl⟩ := List.mem_map.1 hf
            have h3 : z.length ≤ total l := by
              have := List.sublist_flatten_of_mem hz
              have := this.length_le
              rw [total_flatten] at this
              exact this
            exact mkf_byt (hby z hz) (by omega) y hyf
          have hfeed : feedL [] false ((l.map mkf).flatten ++ tl) = (l.map mkf, tl, false) := by
            simp only [feedL, List.nil_append]
            rw [split_mk tl (by omega)]
            rfl
          have hfs := hS.fs
          have hbt : Bs wr (fun k => w.heap.size ≤ k) (.slice qt tl.length ct) tl := ht0.belowA hS.low
          have hsrow := hS.srow
          generalize l.map mkf = F at *
          go_wp2_with (at_builtin; refine wpList_append_bs _ rfl (.tmp 58) (.tmp 59) rfl w1.heap.size _ _ _ rfl hsrow _ tl _ rfl hbt (by omega) hS.hB ?_; intro v2 w2 hown2 hg2 _; replace hg2 : wr.grownBy w2 u7.ownBlock := hg2)
          have hx2 : Ext (fun k => u7.ownBlock = some k) wr w2 := ⟨hg2.os, hg2.tape, hg2.output, hg2.size, fun k hk hs => hg2.block k hk (fun e => hs e.symm)⟩
          have hpB := hS.hpB
          have hnp : ¬ u7.ownBlock = some pf := fun e => by have := (World.ownsRow.lt hsrow pf e).1; omega
          have fm2 := hS.fm.keep_nil hx2 hnp
          have fs2 := hfs.keep hx2 (fun _ _ h => .inr h)
          have hv2 : Own5 w2 w1.heap.size v2 (F.flatten ++ tl) := by
            show World.ownsRow _ _ _ _ _ _ _
            rw [List.length_append, List.map_append]; exact hown2
          have low2 := below_ext hS.low hx2 (fun k hk => by have := (World.ownsRow.lt hsrow k hk).1; have := hS.hp; omega) hS.low.size
          have hfd := feed_ok fm2 hv2.bs Byt.nil hFb (by rw [List.length_append, List.length_nil]; omega)
          rw [hfeed] at hfd
          simp only at hfd
          clear hown2 hg2 hfeed
          go_wp2_with fail
          go_at_call 10
          refine hfd.mono ?_
          rintro e w3 ⟨ov, rfl, hov, fm3, hx3⟩
          have fs3 := fs2.keep hx3 (fun _ _ h => .inl h)
          have low3 := below_ext low2 hx3 (fun k hk => by omega) low2.size
          simp only [codeOf]
          go_wp2_with fail
          go_at_call 12
          refine (same_ok fs3 hov.fs hF60 hFe).mono ?_
          rintro e w4 ⟨rfl, n4, hw4⟩
          rw [decide_eq_true (rfl : F = F)]
          have hx4 : Ext (fun _ => False) w3 w4 := by rw [hw4]; exact (Ext.refl _ w3).drewN n4
          have fm4 := fm3.keep hx4 (fun _ _ h => h.elim) (fun h => h)
          have low4 := below_ext low3 hx4 (fun k hk => hk.elim) low3.size
          clear hw4
          go_wp2_with fail
          go_at_call 13
          refine (held_ok fm4).mono ?_
          rintro e w5 ⟨rfl, hw5⟩
          have hw5 := hw5.symm
          subst hw5
          go_wp2_with fail
          go_at_call 8
          refine (sureEnd _ low4).mono ?_
          rintro e w9 ⟨rfl, hB⟩
          go_wp2
          go_ret
          exact ⟨rfl, hB⟩
end Go.Proofs.Ytlacngdbembkkaa
