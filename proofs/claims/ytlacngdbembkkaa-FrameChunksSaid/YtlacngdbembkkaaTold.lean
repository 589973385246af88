/- told. -/
import Derived.Test.YtlacngdbembkkaaPieces
namespace Go.Proofs.Ytlacngdbembkkaa
open Go.RowKit Go.Shelf

theorem Fr27.ext {S : Nat → Prop} {W W' : World} {B : Nat} {v : Value} {fs : List (List Int)} (h : Fr27 W B v fs) (hx : Ext S W W') (hs : ∀ k, S k → k < B) : Fr27 W' B v fs := by
  obtain ⟨us, h1, h2, h3⟩ := h
  have hn : ∀ {e s n : Nat} {u : Value} {xs : List Value}, W.ownsRow B e s u n xs → ∀ k, u.ownBlock = some k → ¬ S k := fun ho k hk s => by
    have := (World.ownsRow.lt ho k hk).1
    have := hs k s
    omega
  refine ⟨us, ownsRow.ext hx h1 (hn h1), h2, fun j y hj => ?_⟩
  obtain ⟨u, hu, ho⟩ := h3 j y hj
  exact ⟨u, hu, ownsRow.ext hx ho (hn ho)⟩

theorem Fr27.append {W W2 : World} {B B2 : Nat} {ov ov' : Value} {fs gs : List (List Int)} {us us2 : List Value} (hrow : W.ownsRow B 27 1 ov fs.length us) (hlen : us.length = fs.length) (hu : ∀ (j : Nat) (x : List Int), fs[j]? = some x → ∃ u, us[j]? = some u ∧ Own5 W B u x)
    (hlen2 : us2.length = gs.length) (hu2 : ∀ (j : Nat) (x : List Int), gs[j]? = some x → ∃ u, us2[j]? = some u ∧ Own5 W B2 u x) (hB : B ≤ B2) (hg : W.grownBy W2 ov.ownBlock) (hown : W2.ownsRow B 27 1 ov' (fs.length + us2.length) (us ++ us2)) : Fr27 W2 B ov' (fs ++ gs) := by
  have lift : ∀ (n0 : Nat) (v : Value) (x : List Int), W.ownsRow n0 5 1 v x.length (x.map (.int .u8)) → B ≤ n0 → Own5 W2 B v x := fun n0 v x ho hn =>
    Own5.mono (B := n0) (ho.kept hg (row_ne ho hrow (by decide))) hn
  refine ⟨us ++ us2, by rw [List.length_append, ← hlen2]; exact hown, by simp [hlen, hlen2], fun j x hj => ?_⟩
  by_cases hjl : j < fs.length
  · rw [List.getElem?_append_left hjl] at hj
    obtain ⟨u', h1, h2⟩ := hu j x hj
    exact ⟨u', by rw [List.getElem?_append_left (by rw [hlen]; exact hjl)]; exact h1, lift B u' x h2 (Nat.le_refl _)⟩
  · rw [List.getElem?_append_right (by omega)] at hj
    obtain ⟨u', h1, h2⟩ := hu2 _ x hj
    exact ⟨u', by rw [List.getElem?_append_right (by omega), hlen]; exact h1, lift B2 u' x h2 hB⟩

theorem wpList_append_fr (w : World) {ops : Array Oper} {rest : List Oper} {o : Oper} {a : Act} {Q : Exit → Act → World → Prop} (hgd : o.guard = none) (s x : Operand)
    (ho : o.op = .call { callee := .builtin .append, args := #[s, x], argTypes := #[22, 22] }) (base B2 : Nat)
    (v : Value) (n : Nat) (xs : List Value) (hs : a.eval s = v) (hown : w.ownsRow base 27 1 v n xs)
    (u : Value) (us2 : List Value) (hx : a.eval x = u) (hsrc : w.ownsRow B2 27 1 u us2.length us2) (h1 : ∀ y ∈ us2, y.oneCell' = true) (hn : n + us2.length ≤ 5000000000) (hbase : base ≤ w.heap.size)
    (h : ∀ v' w', w'.ownsRow base 27 1 v' (n + us2.length) (xs ++ us2) → w.grownBy w' v.ownBlock → (v'.ownBlock = v.ownBlock ∨ v'.ownBlock = some w.heap.size) → wpList Try.prog ops Q rest (a.put o.dst v') w') : wpList Try.prog ops Q (o :: rest) a w := by
  obtain ⟨i0, hi, hz0, hz1, hz2⟩ := info_parts Try.info27
  rcases hsrc.2 with ⟨rfl, h0⟩ | ⟨g, cap, cur, rfl, _, hg, hc, _⟩
  · obtain rfl : us2 = [] := List.length_eq_zero_iff.1 h0
    refine wpList_plain hgd fun K hK => ?_
    have hrun := run_append_nothing (P := Try.prog) (w := w) base 22 o.type 27 i0 1 Try.underlying22 hi v n xs hown 0
    unfold Oper.wp
    simp [execOp, ho, resolve, invoke, builtin, hs, hx, hrun, Result.andThen]
    exact hK _ _ (h v w (by simpa using hown) ⟨rfl, rfl, rfl, Nat.le_refl _, fun _ _ _ => rfl⟩ (.inl rfl))
  · exact wpList_append_own_at w hgd s x 22 ho base 27 i0 (.slice none 0 0) 1 24 Try.underlying22 hi hz0 hz1 hz2 rfl (by decide) v n xs hs hown ⟨g, 0, none⟩ us2.length cap us2 hx (by omega) (fun j y hj => by
        rw [Go.WideShapes.add_plain, Nat.zero_add]
        exact ownsRow_cell hsrc j y hj) h1 (by unfold maxLen; omega) (by omega) hbase (fun v' w' r1 r2 _ r4 => h v' w' r1 r2 r4)

set_option maxHeartbeats 3200000 in
theorem told_ok {w : World} {Av : Nat → Prop} (hav : ∀ k, Av k → k < w.heap.size) {p : Nat} (h : Fm w Av p [] false) {lv : Value} {cs : List (List Int)} (hl : Fs w (fun k => k = p) lv cs) (hby : ∀ c ∈ cs, Byt c) (hcl : cs.length ≤ 200) (htot : cs.flatten.length ≤ 3000) :
    Calls Try.prog 19 #[.pointer (some ⟨p, 0, none⟩), lv] w fun e w' => ∃ ov, e = .returned (.tuple #[ov, .int .i64 (codeOf (toldL [] false cs).2.2)]) ∧ Fr27 w' w.heap.size ov (toldL [] false cs).1 ∧ Fm w' Av p (toldL [] false cs).2.1 (toldL [] false cs).2.2 ∧ Ext (fun k => k = p) w w' := by
  have hl0 := hl
  obtain ⟨q, cap, rfl, hcap, hlx⟩ := hl
  go_enter Try.func19, Try.ntmps19
  go_wp2_with fail
  go_loopw [6, 7, 8] (fun ov cv i wr => ∃ k : Nat, k ≤ cs.length ∧ i = .int .i64 k ∧ Fm wr (fun k => Av k ∨ ov.ownBlock = some k) p (toldL [] false (cs.take k)).2.1 (toldL [] false (cs.take k)).2.2 ∧ Fr27 wr w.heap.size ov (toldL [] false (cs.take k)).1 ∧ cv = .int .i64 (codeOf (toldL [] false (cs.take k)).2.2) ∧ Ext (fun k => k = p) w wr)
    (fun _ _ i _ => (cs.length - intOf i).toNat)
  case atStart => exact ⟨0, Nat.zero_le _, rfl, h.mono (fun k _ hk => by rcases hk with hk | hk; exact hk; simp [Value.ownBlock] at hk) (.inl h.avp), ⟨[], World.ownsRow_nil _ _ _ _, rfl, fun j x hj => by simp [toldL] at hj⟩, rfl, Ext.refl _ _⟩
  case round =>
    obtain ⟨k, hk, rfl, hfm, hfr, rfl, hX⟩ := hrel
    by_cases hkn : k < cs.length
    · obtain ⟨c, hcv⟩ : ∃ c, cs[k]? = some c := ⟨_, List.getElem?_eq_getElem hkn⟩
      obtain ⟨b, off, rfl, hb1, hb2, hb3⟩ := hlx (by intro e; simp [e] at hkn)
      obtain ⟨u, hu, hub⟩ := hb3 k c hcv
      have hur : wr.cell? ⟨b, off + k, none⟩ = some u := (hX.cell (p := ⟨b, off + k, none⟩) hb2 hb1).trans hu
      have hubr : Bs wr (fun k => k = p) u c := hub.keep hX (fun _ _ h => h)
      have hka : (k : Int) < (cs.length : Int) := by omega
      have hcb := hby c (List.mem_of_getElem? hcv)
      have hsn : cs.take (k + 1) = cs.take k ++ [c] := by rw [List.take_add_one, hcv]; simp
      have htl : (cs.take k).flatten.length + c.length ≤ 3000 := by
        have h1 := total_take_succ cs k c hcv
        have h2 := total_take_le cs (k + 1)
        rw [total_flatten] at htot ⊢
        omega
      have hhl := toldL_held (cs.take k) [] false
      have hcount := toldL_count (cs.take k) [] false
      have hbt := toldL_byt (cs.take k) [] false Byt.nil (fun x hx => hby x (List.mem_of_mem_take hx))
      have hts := toldL_snoc (cs.take k) [] false c
      have hmul : (cs.take k).length * (([] : List Int).length + (cs.take k).flatten.length) ≤ 200 * 3000 := Nat.mul_le_mul (by simp; omega) (by simp only [List.length_nil]; omega)
      have hfbd := feed_bound (toldL [] false (cs.take k)).2.1 c (toldL [] false (cs.take k)).2.2
      have hfd := feed_ok hfm hubr hbt hcb (by simp only [List.length_nil] at hhl; omega)
      simp only [List.length_nil, Nat.zero_add] at hhl hcount hmul
      rw [← hsn] at hts
      generalize toldL [] false (cs.take k) = T at *
      obtain ⟨F, held, f⟩ := T
      simp only at hfm hfr hhl hcount hbt hts hfbd hfd
      obtain ⟨G, held2, f2, hF⟩ : ∃ G h2 f2, feedL held f c = (G, h2, f2) := ⟨_, _, _, rfl⟩
      rw [hF] at hfbd hfd hts
      simp only at hfbd hfd hts
      clear hF hb3 hsn
      have hlow : p < w.heap.size := hav p h.avp
      go_wp2_with fail
      go_at_call 10
      refine hfd.mono ?_
      rintro e w3 ⟨fv, rfl, hfv, hfm3, hX3⟩
      have hfr3 := hfr.ext hX3 (fun k hk => by omega)
      obtain ⟨us, hrow, hus, husu⟩ := hfr3
      obtain ⟨us2, hrow2, hus2, husu2⟩ := hfv
      have hrow2' : w3.ownsRow wr.heap.size 27 1 fv us2.length us2 := by rw [hus2]; exact hrow2
      have hone : ∀ y ∈ us2, y.oneCell' = true := fun y hy => by
        obtain ⟨j, hj⟩ := List.mem_iff_getElem?.1 hy
        have hjl : j < G.length := by rw [← hus2]; exact (List.getElem?_eq_some_iff.1 hj).1
        obtain ⟨u', h1, h2⟩ := husu2 j _ (List.getElem?_eq_getElem hjl)
        rw [hj] at h1; cases h1
        obtain ⟨q', c', rfl⟩ := row_slice h2
        rfl
      have hbase : w.heap.size ≤ w3.heap.size := Nat.le_trans hX.size hX3.size
      go_wp2_with (at_builtin; refine wpList_append_fr _ rfl (.tmp 26) (.tmp 27) rfl w.heap.size wr.heap.size _ _ _ rfl hrow _ us2 rfl hrow2' hone (by omega) hbase ?_; intro o2 w4 hown4 hg4 ho4)
      replace hg4 : w3.grownBy w4 u6.ownBlock := hg4
      replace ho4 : o2.ownBlock = u6.ownBlock ∨ o2.ownBlock = some w3.heap.size := ho4
      have hx4 : Ext (fun k => u6.ownBlock = some k) w3 w4 := ⟨hg4.os, hg4.tape, hg4.output, hg4.size, fun k hk hs => hg4.block k hk (fun e => hs e.symm)⟩
      have hul : ∀ k, u6.ownBlock = some k → w.heap.size ≤ k ∧ k < wr.heap.size := fun k hk => by
        obtain ⟨us0, hr0, _⟩ := hfr
        exact World.ownsRow.lt hr0 k hk
      have hws := hX.size
      have fm3 : Fm w3 (fun k => (Av k ∨ u6.ownBlock = some k) ∨ w3.heap.size ≤ k) p held2 f2 := hfm3.mono (fun k hk hh => by
        rcases hh with (hh | hh) | hh
        · exact ⟨.inl hh, by have := hav k hh; omega⟩
        · exact ⟨.inr hh, (hul k hh).2⟩
        · omega) (.inl (.inl h.avp))
      have fm4 : Fm w4 (fun k => Av k ∨ o2.ownBlock = some k) p held2 f2 := (fm3.keep hx4 (fun k _ hh => .inl (.inr hh)) (fun e => by have := (hul p e).1; omega)).mono (fun k _ hh => by
        rcases hh with hh | hh
        · exact .inl (.inl hh)
        · rcases ho4 with e | e
          · exact .inl (.inr (by rw [← e]; exact hh))
          · rw [e] at hh; cases hh; exact .inr (Nat.le_refl _)) (.inl h.avp)
      have fr4 := Fr27.append hrow hus husu hus2 husu2 hX.size hg4 hown4
      have hX4 : Ext (fun k => k = p) w w4 := ⟨hx4.os.trans (hX3.os.trans hX.os), hx4.tape.trans (hX3.tape.trans hX.tape), hx4.output.trans (hX3.output.trans hX.output), Nat.le_trans hX.size (Nat.le_trans hX3.size hx4.size), fun k hk hs =>
        (hx4.block k (by have := hX3.size; omega) (fun e => by have := (hul k e).1; omega)).trans ((hX3.block k (by omega) hs).trans (hX.block k hk hs))⟩
      go_wp2_with fail
      go_roundw
      case rel => exact ⟨k + 1, by omega, by go_num, by rw [hts]; exact fm4, by rw [hts]; exact fr4, by rw [hts], hX4⟩
      case measure => simp [intOf]; omega
    · have he : k = cs.length := by omega
      subst he
      rw [List.take_length] at hfm hfr ⊢
      go_wp2
      go_ret2
      exact ⟨_, rfl, hfr, hfm.mono (fun k _ hk => .inl hk) h.avp, hX⟩
end Go.Proofs.Ytlacngdbembkkaa
