/- FrameFeeds. -/
import Derived.Test.YtlacngdbembkkaaPure
import Derived.Test.YtlacngdbembkkaaTree
namespace Go.Proofs.Ytlacngdbembkkaa
open Go.RowKit Go.Shelf
attribute [local go_sem] Oper.semAt_some

/-- The blocks that turn. -/
def Trn (p bw : Nat) (al : Value) (k : Nat) : Prop := k = p ∨ k = bw ∨ al.ownBlock = some k

/-- How it stands between two rounds. -/
structure LS (w W : World) (p bw : Nat) (al : Value) (A held : List Int) (failed : Bool) (ra : List Int) (td : Nat) (rv : Value) : Prop where
  low : Below w.heap.size w W
  hp : w.heap.size ≤ p
  hb : p < bw
  lt : bw < W.heap.size
  fm : Fm W (Trn p bw al) p held failed
  inv : Inv A held failed ra td
  box : W.heap[bw]? = some (.cells #[rv, .int .i64 td, .bool failed] 29 (0, 0))
  rb : Bs W (Trn p bw al) rv ra
  row : W.ownsRow w.heap.size 5 1 al A.length (A.map (.int .u8))
  ne : ∀ k, al.ownBlock = some k → k ≠ p ∧ k ≠ bw

theorem LS.trn_lt {w W : World} {p bw : Nat} {al : Value} {A held : List Int} {failed : Bool} {ra : List Int} {td : Nat} {rv : Value} (h : LS w W p bw al A held failed ra td rv) {k : Nat} (hk : Trn p bw al k) : k < W.heap.size := by
  have := h.lt
  have := h.hb
  rcases hk with rfl | rfl | hk
  · omega
  · omega
  · exact (World.ownsRow.lt h.row k hk).2

theorem ownsRow.ext {S : Nat → Prop} {W W' : World} (hx : Ext S W W') {base e size : Nat} {v : Value} {n : Nat} {xs : List Value} (h : W.ownsRow base e size v n xs) (hs : ∀ k, v.ownBlock = some k → ¬ S k) : W'.ownsRow base e size v n xs := by
  refine ⟨h.1, ?_⟩
  rcases h.2 with hn | ⟨g, cap, cur, hv, hg, hgb, rest⟩
  · exact .inl hn
  · exact .inr ⟨g, cap, cur, hv, hg, (hx.block g (lt_of_block hgb) (hs g (by rw [hv]; rfl))).trans hgb, rest⟩
theorem below_ext {B : Nat} {S : Nat → Prop} {a w w' : World} (h : Below B a w) (hx : Ext S w w') (hs : ∀ k, S k → B ≤ k) (hB : B ≤ w.heap.size) : Below B a w' :=
  ⟨hx.os.trans h.os, hx.tape.trans h.tape, hx.output.trans h.output, Nat.le_trans h.size hx.size, fun k hk => (hx.block k (Nat.lt_of_lt_of_le hk hB) (fun s => by have := hs k s; omega)).trans (h.block k hk)⟩
theorem feed_bound (held x : List Int) (failed : Bool) : (feedL held failed x).1.length ≤ held.length + x.length ∧ ∀ f ∈ (feedL held failed x).1, f.length ≤ held.length + x.length := by
  cases failed with
  | true => exact ⟨Nat.zero_le _, fun f hf => by cases hf⟩
  | false =>
    have h1 := splitL_count (held ++ x).length (held ++ x) (Nat.le_refl _)
    have h2 := congrArg List.length (split_eq (held ++ x))
    simp only [List.length_append] at h1 h2
    refine ⟨h1, fun f hf => ?_⟩
    have h3 : f.length ≤ (splitL (held ++ x)).1.flatten.length := (List.sublist_flatten_of_mem hf).length_le
    omega

theorem LS.push {w W W' : World} {p bw : Nat} {al al' : Value} {A x held : List Int} {failed : Bool} {ra : List Int} {td : Nat} {rv : Value} (low : Below w.heap.size w W) (hp : w.heap.size ≤ p) (hb : p < bw) (lt : bw < W.heap.size) (fm : Fm W (Trn p bw al) p held failed) (inv : Inv (A ++ x) held failed ra td)
    (box : W.heap[bw]? = some (.cells #[rv, .int .i64 td, .bool failed] 29 (0, 0))) (rb : Bs W (Trn p bw al) rv ra) (row : W.ownsRow w.heap.size 5 1 al A.length (A.map (.int .u8))) (ne : ∀ k, al.ownBlock = some k → k ≠ p ∧ k ≠ bw)
    (hg : W.grownBy W' al.ownBlock) (hown : W'.ownsRow w.heap.size 5 1 al' (A.length + x.length) (A.map (.int .u8) ++ x.map (.int .u8))) (hob : al'.ownBlock = al.ownBlock ∨ al'.ownBlock = some W.heap.size) : LS w W' p bw al' (A ++ x) held failed ra td rv := by
  have hx : Ext (fun k => al.ownBlock = some k) W W' := ⟨hg.os, hg.tape, hg.output, hg.size, fun k hk hs => hg.block k hk (fun e => hs e.symm)⟩
  have hal : ∀ k, Trn p bw al' k → Trn p bw al k ∨ W.heap.size ≤ k := fun k hk => by
    rcases hk with h | h | h
    · exact .inl (.inl h)
    · exact .inl (.inr (.inl h))
    · rcases hob with e | e
      · exact .inl (.inr (.inr (by rw [← e]; exact h)))
      · rw [e] at h; cases h; exact .inr (Nat.le_refl _)
  have hpn : ¬ al.ownBlock = some p := fun e => (ne p e).1 rfl
  refine ⟨?_, hp, hb, Nat.lt_of_lt_of_le lt hg.size, ?_, inv, ?_, ?_, ?_, ?_⟩
  · exact below_ext low hx (fun k hk => (World.ownsRow.lt row k hk).1) low.size
  · have f1 := fm.mono (Av' := fun k => Trn p bw al k ∨ W.heap.size ≤ k) (fun k hk h => h.resolve_right (by omega)) (.inl fm.avp)
    exact (f1.keep hx (fun k _ h => .inl (.inr (.inr h))) hpn).mono (fun k _ h => hal k h) (.inl rfl)
  · exact (hx.block bw lt (fun e => (ne bw e).2 rfl)).trans box
  · have f1 := rb.mono (Av' := fun k => Trn p bw al k ∨ W.heap.size ≤ k) (fun k hk h => h.resolve_right (by omega))
    exact (f1.keep hx (fun k _ h => .inl (.inr (.inr h)))).mono (fun k _ h => hal k h)
  · rw [List.length_append, List.map_append]; exact hown
  · intro k hk
    rcases hob with e | e
    · exact ne k (by rw [← e]; exact hk)
    · rw [e] at hk; cases hk; omega

theorem Bs.form {w : World} {Av : Nat → Prop} {v : Value} {l : List Int} (h : Bs w Av v l) : ∃ q c, v = .slice q l.length c := by
  obtain ⟨q, c, e, _⟩ := h
  exact ⟨q, c, e⟩
theorem total_take_le (l : List (List Int)) (k : Nat) : total (l.take k) ≤ total l := by
  have h := List.take_append_drop k l
  have h2 : total l = total (l.take k) + total (l.drop k) := by
    conv => lhs; rw [← h]
    simp only [total, List.map_append, List.sum_append]
  omega
theorem total_flatten (l : List (List Int)) : l.flatten.length = total l := by
  induction l with
  | nil => rfl
  | cons x l ih => simp [total, ih]

set_option maxHeartbeats 6400000 in
theorem feeds_ok {w : World} {v : Value} {l : List (List Int)} (h : Fs w (fun k => w.heap.size ≤ k) v l) (hn : l.length ≤ 9223372036854775807) (hb : ∀ x ∈ l, x.length ≤ 140737488355328) (hby : ∀ x ∈ l, Byt x) :
    Calls Try.prog 3 #[v] w fun e w' => e = .returned (.bool true) ∧ Below w.heap.size w w' := by
  have hfew := few_ok h hn hb
  have h0 := h
  obtain ⟨q, cap, rfl, hcap, _⟩ := h
  have hf7 : Fence.wide.fn 7 := trivial
  have hf8 : Fence.wide.fn 8 := trivial
  have hf9 : Fence.wide.fn 9 := trivial
  have hf10 : Fence.wide.fn 10 := trivial
  have hf11 : Fence.wide.fn 11 := trivial
  have hf12 : Fence.wide.fn 12 := trivial
  have hf13 : Fence.wide.fn 13 := trivial
  have hf14 : Fence.wide.fn 14 := trivial
  have hf15 : Fence.wide.fn 15 := trivial
  have hf16 : Fence.wide.fn 16 := trivial
  have hf17 : Fence.wide.fn 17 := trivial
  have hf18 : Fence.wide.fn 18 := trivial
  refine (callsIn_wide (n := 1)).1 ?_
  refine callsIn_of_wp Try.func3 rfl trivial ?_ rfl
  simp only [Try.ntmps3, List.size_toArray, List.length_cons, List.length_nil, Nat.reduceAdd, Nat.reduceSub, Array.replicate_succ, Array.replicate_zero, List.push_toArray, List.append_toArray, List.nil_append, List.cons_append]
  gi_wp2_with (fail)
  gi_at_call 7
  refine (callsIn_wide.2 hfew).mono ?_
  rintro e w0 ⟨b, rfl, hw, hfb⟩
  have hw := hw.symm
  subst hw
  cases b with
  | false =>
    gi_wp2_with (fail)
    gi_at_call 8
    refine (callsIn_wide.2 (sure_ok w)).mono ?_
    rintro e w1 ⟨rfl, hB⟩
    gi_wp2
    go_ret
    exact ⟨rfl, hB⟩
  | true =>
    obtain ⟨h60, h3000⟩ := hfb rfl
    gi_wp2_with (fail)
    gi_at_call 9
    refine (callsIn_wide.2 (new_ok w)).mono ?_
    rintro e w1 ⟨rfl, hnew, hB1⟩
    gi_wp2_with (fail)
    have hlt1 : w.heap.size < w1.heap.size := (hnew (fun k => k = w.heap.size) rfl).lt
    gi_loopw [5, 6] (fun al i wr => ∃ (k : Nat) (held : List Int) (failed : Bool) (ra : List Int) (td : Nat) (rv : Value), k ≤ l.length ∧ i = .int .i64 k ∧ LS w wr w.heap.size w1.heap.size al (l.take k).flatten held failed ra td rv)
      (fun _ i _ => (l.length - intOf i).toNat)
    case atStart =>
      refine ⟨0, [], false, [], 0, .slice none 0 0, Nat.zero_le _, rfl, ?_⟩
      have hx1 : Ext (fun _ => False) w1 (w1.alloc (.cells #[.slice none 0 0, .int .i64 0, .bool false] 29)) := (Ext.refl _ w1).alloc _
      exact ⟨hB1.alloc hB1.size _, Nat.le_refl _, hlt1, by simp, (hnew _ (.inl rfl)).keep hx1 (fun _ _ h => h.elim) (fun h => h), Inv.start, World.alloc_heap_new w1 _, ⟨none, 0, rfl, Nat.le_refl _, fun h => absurd rfl h⟩, World.ownsRow_nil _ _ _ _, fun k hk => by simp [Value.ownBlock] at hk⟩
    case round =>
      obtain ⟨k, held, failed, ra, td, rv, hk, rfl, hS⟩ := hrel
      by_cases hkn : k < l.length
      · obtain ⟨x, hx⟩ : ∃ x, l[k]? = some x := ⟨_, List.getElem?_eq_getElem hkn⟩
        obtain ⟨p0, cp0, e0, _, g⟩ := h0.mono (Av' := fun k => w.heap.size ≤ k) (fun _ _ h => h)
        cases e0
        obtain ⟨b, off, rfl, g1, g2, g3⟩ := g (by intro e; simp [e] at hkn)
        obtain ⟨u, hu, hub⟩ := g3 k x hx
        have hur : wr.cell? ⟨b, off + k, none⟩ = some u := (hS.low.cell (p := ⟨b, off + k, none⟩) g2).trans hu
        have hubr : Bs wr (fun k => w.heap.size ≤ k) u x := hub.belowA hS.low
        have hka : (k : Int) < (l.length : Int) := by omega
        have hxb := hby x (List.mem_of_getElem? hx)
        have hsum : (l.take k).flatten.length + x.length ≤ 3000 := by
          have h1 := total_take_succ l k x hx
          have h2 := total_take_le l (k + 1)
          have h3 := total_flatten (l.take k)
          omega
        clear g g3
        have hhl := hS.inv.held_le
        gi_wp2_with (fail)
        gi_at_call 10
        refine (callsIn_wide.2 (feed_ok hS.fm hubr hS.inv.byh hxb (by omega))).mono ?_
        rintro e w2 ⟨fv, rfl, hfr, hfm, hX⟩
        gi_wp2_with (fail)
        obtain ⟨hstd, hse1, hse2, hinv2⟩ := hS.inv.step hxb
        obtain ⟨fs, held2, fl2, hF⟩ : ∃ fs h2 f2, feedL held failed x = (fs, h2, f2) := ⟨_, _, _, rfl⟩
        obtain ⟨ra2, td2, fr2, ofs, hR⟩ : ∃ ra2 td2 fr2 ofs, refL ra td failed x = ((ra2, td2, fr2), ofs) := ⟨_, _, _, _, rfl⟩
        have hrf := fun (W : World) (Av : Nat → Prop) (hr : Bs W Av rv ra) (hc : Bs W (fun k => w.heap.size ≤ k) u x) => refFeed_ok hr hc hS.inv.byr hxb (by have := hS.inv.len; omega) hstd
        have hfl := feed_bound held x failed
        rw [hF] at hse1 hse2 hinv2 hfr hfm hfl
        obtain ⟨hfl1, hfl2⟩ := hfl
        simp only at hfl1 hfl2
        replace hfl2 : ∀ f ∈ fs, f.length ≤ 1000000 := fun f hf => by have := hfl2 f hf; omega
        rw [hR] at hse1 hse2 hinv2
        simp only at hse1 hse2 hinv2 hfr hfm
        subst hse1
        subst hse2
        simp only [hR] at hrf
        simp only [hF]
        have hnb : w1.heap.size ≠ w.heap.size := by omega
        have hbox2 : w2.heap[w1.heap.size]? = some (.cells #[rv, .int .i64 td, .bool failed] 29 (0, 0)) := (hX.block _ hS.lt hnb).trans hS.box
        have hrb2 : Bs w2 (Trn w.heap.size w1.heap.size u5) rv ra := hS.rb.keep hX (fun _ _ h => .inl h)
        have hu2 : w2.cell? ⟨b, off + k, none⟩ = some u := (hX.cell (p := ⟨b, off + k, none⟩) (Nat.lt_of_lt_of_le g2 hS.low.size) (by simp; omega)).trans hur
        have hub2 : Bs w2 (fun k => w.heap.size ≤ k) u x := hubr.keep hX (fun k _ h => by omega)
        have hlt2 : w1.heap.size < w2.heap.size := Nat.lt_of_lt_of_le hS.lt hX.size
        have hb2 : b < w2.heap.size := Nat.lt_of_lt_of_le (Nat.lt_of_lt_of_le g2 hS.low.size) hX.size
        have e0 : w2.cell? ⟨w1.heap.size, 0, none⟩ = some rv := by simp [World.cell?, hbox2]
        have e1 : w2.cell? ⟨w1.heap.size, 1, none⟩ = some (.int .i64 td) := by simp [World.cell?, hbox2]
        have e2 : w2.cell? ⟨w1.heap.size, 2, none⟩ = some (.bool failed) := by simp [World.cell?, hbox2]
        clear hF hR
        refine wpIn_region_tr (.q 0 (.q 1 (.q 2 (.q 3 (.q 4 (.two 5 (.q 6 (.q 7 (.q 8 (.q 9 (.l 10 (.l 11 (.q 12 (.q 13 .nil)))))))) 10 (.l 5 (.q 6 (.q 7 (.q 8 (.q 9 (.l 11 (.q 12 (.q 13 .nil))))))))))))))
          (fun w' => Below w2.heap.size w2 w') (by kernel_rfl) (by kernel_rfl) (Below.refl _ w2).drew ?_
        repeat (
          refine wpTr_q (v := ?_) rfl (fun _ h => by cases h) (fun _ => rfl) rfl (fun w' hw => ?_) ?_
          rotate_left
          · (have x0 := (hw.cell (p := ⟨w1.heap.size, 0, none⟩) hlt2).trans e0; have x1 := (hw.cell (p := ⟨w1.heap.size, 1, none⟩) hlt2).trans e1; have x2 := (hw.cell (p := ⟨w1.heap.size, 2, none⟩) hlt2).trans e2; have x3 := (hw.cell (p := ⟨b, off + k, none⟩) hb2).trans hu2; first | (go_simp; done) | (go_simp; with_reducible rfl))
          try simp only [Act.put, List.getElem_toArray, List.getElem_cons_zero, List.getElem_cons_succ, List.setIfInBounds_toArray, List.set_cons_succ, List.set_cons_zero])
        refine wpTr_two rfl rfl ?_ ?_
        · gi_wp2_with (gi_at_call 11; refine (callsIn_wide.2 (hrf _ _ hrb2.drew hub2.drew)).mono ?_; rintro e w3 ⟨rv2, ov, rfl, hrv3, hov3, hB3⟩)
          have hC3 : Below w2.heap.size w2 w3 := (Below.refl _ w2).drew.trans hB3
          refine ⟨hC3, ?_⟩
          obtain ⟨qr, cr, rfl⟩ := hrv3.form
          repeat (
            refine wpTr_q (v := ?_) rfl (fun _ h => by cases h) (fun _ => rfl) rfl (fun w' hw => ?_) ?_
            rotate_left
            · (first | (go_simp; done) | (go_simp; with_reducible rfl))
            try simp only [Act.put, List.getElem_toArray, List.getElem_cons_zero, List.getElem_cons_succ, List.setIfInBounds_toArray, List.set_cons_succ, List.set_cons_zero])
          refine wpTr_l rfl ?_
          gi_wp2
          refine ⟨hC3.alloc hC3.size _, ?_⟩
          refine wpTr_l rfl ?_
          gi_wp2
          refine ⟨hC3.alloc hC3.size _, ?_⟩
          repeat (
            refine wpTr_q (v := ?_) rfl (fun _ h => by cases h) (fun _ => rfl) rfl (fun w' hw => ?_) ?_
            rotate_left
            · (first | (go_simp; done) | (go_simp; with_reducible rfl))
            try simp only [Act.put, List.getElem_toArray, List.getElem_cons_zero, List.getElem_cons_succ, List.setIfInBounds_toArray, List.set_cons_succ, List.set_cons_zero])
          refine wpTr_nil ?_
          obtain ⟨W5, hW5⟩ : ∃ W5, w3.alloc (.cells #[.slice qr ra2.length cr, .int .i64 td2, .bool fl2] 29) = W5 := ⟨_, rfl⟩
          have hC5 : Below w2.heap.size w2 W5 := by rw [← hW5]; exact hC3.alloc hC3.size _
          have hbx : W5.heap[w3.heap.size]? = some (.cells #[.slice qr ra2.length cr, .int .i64 td2, .bool fl2] 29 (0, 0)) := by rw [← hW5]; exact World.alloc_heap_new w3 _
          have hx5 : Ext (fun _ => False) w3 W5 := by rw [← hW5]; exact (Ext.refl _ w3).alloc _
          have hrv5 : Bs W5 (Trn w.heap.size w1.heap.size u5) (.slice qr ra2.length cr) ra2 := (hrv3.mono fun k _ hk => ⟨hk, Nat.lt_of_lt_of_le (hS.trn_lt hk) hX.size⟩).keep hx5 (fun _ _ h => h.elim)
          have hov5 : Fs W5 (fun k => k < w2.heap.size) ov fs := hov3.keep hx5 (fun _ _ h => h.elim)
          have hbxge : w2.heap.size ≤ w3.heap.size := hC3.size
          rw [hW5]
          generalize w3.heap.size = bx at hbx hbxge ⊢
          clear hW5 hrv3 hov3 hB3 hC3 hx5 hrf
          have f0 : W5.cell? ⟨bx, 0, none⟩ = some (.slice qr ra2.length cr) := by simp [World.cell?, hbx]
          have f1 : W5.cell? ⟨bx, 1, none⟩ = some (.int .i64 td2) := by simp [World.cell?, hbx]
          have f2 : W5.cell? ⟨bx, 2, none⟩ = some (.bool fl2) := by simp [World.cell?, hbx]
          have hbox5 : W5.heap[w1.heap.size]? = some (.cells #[rv, .int .i64 td, .bool failed] 29 (0, 0)) := (hC5.block _ hlt2).trans hbox2
          have b0 : W5.cell? ⟨w1.heap.size, 0, none⟩ = some rv := by simp [World.cell?, hbox5]
          have b1 : W5.cell? ⟨w1.heap.size, 1, none⟩ = some (.int .i64 td) := by simp [World.cell?, hbox5]
          have b2 : W5.cell? ⟨w1.heap.size, 2, none⟩ = some (.bool failed) := by simp [World.cell?, hbox5]
          have c0 : W5.frozen? ⟨w1.heap.size, 0, none⟩ = false := by simp [World.frozen?, hbox5]
          have c1 : W5.frozen? ⟨w1.heap.size, 1, none⟩ = false := by simp [World.frozen?, hbox5]
          have c2 : W5.frozen? ⟨w1.heap.size, 2, none⟩ = false := by simp [World.frozen?, hbox5]
          have hlt5 : w1.heap.size < W5.heap.size := Nat.lt_of_lt_of_le hlt2 hC5.size
          gi_wp2
          obtain ⟨W6, hW6⟩ : ∃ W6, ((W5.setCell ⟨w1.heap.size, 0, none⟩ (.slice qr ra2.length cr)).setCell ⟨w1.heap.size, 1, none⟩ (.int .i64 td2)).setCell ⟨w1.heap.size, 2, none⟩ (.bool fl2) = W6 := ⟨_, rfl⟩
          have hx6 : Ext (fun k => k = w1.heap.size) W5 W6 := by
            rw [← hW6]
            exact (((Ext.refl (fun k => k = w1.heap.size) W5).setCell (p := ⟨w1.heap.size, 0, none⟩) (.inl rfl) _).setCell (p := ⟨w1.heap.size, 1, none⟩) (.inl rfl) _).setCell (p := ⟨w1.heap.size, 2, none⟩) (.inl rfl) _
          have hbox6 : W6.heap[w1.heap.size]? = some (.cells #[.slice qr ra2.length cr, .int .i64 td2, .bool fl2] 29 (0, 0)) := by
            rw [← hW6]
            exact heap_setCell_at (heap_setCell_at (heap_setCell_at hbox5 0 _) 1 _) 2 _
          rw [hW6]
          clear hW6 hbox5 b0 b1 b2 c0 c1 c2 f0 f1 f2 hbx
          have d0 : W6.cell? ⟨w1.heap.size, 0, none⟩ = some (.slice qr ra2.length cr) := by simp [World.cell?, hbox6]
          have d1 : W6.cell? ⟨w1.heap.size, 1, none⟩ = some (.int .i64 td2) := by simp [World.cell?, hbox6]
          have d2 : W6.cell? ⟨w1.heap.size, 2, none⟩ = some (.bool fl2) := by simp [World.cell?, hbox6]
          have hlt6 : w1.heap.size < W6.heap.size := Nat.lt_of_lt_of_le hlt5 hx6.size
          have hE25 : Ext (fun _ => False) w2 W5 := Ext.of_below hC5
          have fm6 : Fm W6 (Trn w.heap.size w1.heap.size u5) w.heap.size held2 fl2 :=
            ((hfm.mono (fun k _ hk => ⟨hk, hS.trn_lt hk⟩) (.inl rfl)).keep hE25 (fun _ _ h => h.elim) (fun h => h)).keep hx6 (fun _ _ h => .inr (.inl h)) (fun h => hnb h.symm)
          have rb6 : Bs W6 (Trn w.heap.size w1.heap.size u5) (.slice qr ra2.length cr) ra2 := hrv5.keep hx6 (fun _ _ h => .inr (.inl h))
          have fv6 : Fs W6 (fun k => k < wr.heap.size) fv fs := (hfr.fs.keep hE25 (fun _ _ h => h.elim)).keep hx6 (fun k _ h => by rw [h]; exact hS.lt)
          have ov6 : Fs W6 (fun k => k < w2.heap.size) ov fs := hov5.keep hx6 (fun k _ h => by rw [h]; exact hlt2)
          have row6 : W6.ownsRow w.heap.size 5 1 u5 (l.take k).flatten.length ((l.take k).flatten.map (.int .u8)) :=
            ownsRow.ext hx6 (ownsRow.ext hE25 (ownsRow.ext hX hS.row (fun k hk => (hS.ne k hk).1)) (fun _ _ h => h)) (fun k hk => (hS.ne k hk).2)
          have low6 : Below w.heap.size w W6 := below_ext ((below_ext hS.low hX (fun k hk => by omega) hS.low.size).trans (hC5.mono (Nat.le_trans hS.low.size hX.size))) hx6 (fun k hk => by rw [hk]; omega) (by omega)
          clear hrv5 hov5 hfm hfr hbox2 e0 e1 e2 hrb2 hub2 hu2 hX hE25 hx6 hC5
          refine wpIn_region_tr (.q 0 (.q 1 (.l 2 (.q 3 (.q 4 (.q 5 (.q 6 (.q 7 (.q 8 (.q 9 (.q 10 (.q 12 (.l 11 (.l 13 (.q 14 (.q 15 (.q 16 (.q 17 (.q 19 (.q 20 (.l 18 (.q 21 (.q 22 .nil))))))))))))))))))))))) (fun w' => Below W6.heap.size W6 w') (by kernel_rfl) (by kernel_rfl) (Below.refl _ W6).drew ?_
          repeat (
            refine wpTr_q (v := ?_) rfl (fun _ h => by cases h) (fun _ => rfl) rfl (fun w' hw => ?_) ?_
            rotate_left
            · (have x0 := (hw.cell (p := ⟨w1.heap.size, 0, none⟩) hlt6).trans d0; have x1 := (hw.cell (p := ⟨w1.heap.size, 1, none⟩) hlt6).trans d1; have x2 := (hw.cell (p := ⟨w1.heap.size, 2, none⟩) hlt6).trans d2; first | (go_simp; done) | (go_simp; with_reducible rfl))
            try simp only [Act.put, List.getElem_toArray, List.getElem_cons_zero, List.getElem_cons_succ, List.setIfInBounds_toArray, List.set_cons_succ, List.set_cons_zero])
          refine wpTr_l rfl ?_
          gi_wp2_with (gi_at_call 12; refine (callsIn_wide.2 (same_ok (fv6.keep (S := fun _ => False) (Ext.of_below (Below.refl _ W6).drew) (fun _ _ h => h.elim)) (ov6.keep (S := fun _ => False) (Ext.of_below (Below.refl _ W6).drew) (fun _ _ h => h.elim)) (by omega) hfl2)).mono ?_; rintro e w7 ⟨rfl, n7, hw7⟩; have hC7 : Below W6.heap.size W6 w7 := (by rw [hw7]; exact ⟨rfl, rfl, rfl, Nat.le_refl _, fun _ _ => rfl⟩); clear hw7; rw [decide_eq_true (rfl : fs = fs)])
          refine ⟨hC7, ?_⟩
          repeat (
            refine wpTr_q (v := ?_) rfl (fun _ h => by cases h) (fun _ => rfl) rfl (fun w' hw => ?_) ?_
            rotate_left
            · (have x0 := (hw.cell (p := ⟨w1.heap.size, 0, none⟩) hlt6).trans d0; have x1 := (hw.cell (p := ⟨w1.heap.size, 1, none⟩) hlt6).trans d1; have x2 := (hw.cell (p := ⟨w1.heap.size, 2, none⟩) hlt6).trans d2; first | (go_simp; done) | (go_simp; with_reducible rfl))
            try simp only [Act.put, List.getElem_toArray, List.getElem_cons_zero, List.getElem_cons_succ, List.setIfInBounds_toArray, List.set_cons_succ, List.set_cons_zero])
          refine wpTr_l rfl ?_
          have hral : ra2.length ≤ 1000000 := by
            have hh := hinv2.len
            rw [List.length_append] at hh
            omega
          have fmC : ∀ W, Below W6.heap.size W6 W → Fm W (Trn w.heap.size w1.heap.size u5) w.heap.size held2 fl2 := fun W h => fm6.keep (S := fun _ => False) (Ext.of_below h) (fun _ _ h => h.elim) (fun h => h)
          have rbC : ∀ W, Below W6.heap.size W6 W → Bs W (Trn w.heap.size w1.heap.size u5) (.slice qr ra2.length cr) ra2 := fun W h => rb6.belowA h
          gi_wp2_with (gi_at_call 13; refine (callsIn_wide.2 (held_ok (fmC _ hC7))).mono ?_; rintro e w8 ⟨rfl, hw8⟩; have hw8 := hw8.symm; subst hw8)
          refine ⟨hC7, ?_⟩
          refine wpTr_l rfl ?_
          gi_wp2_with (gi_at_call 14; refine (callsIn_wide.2 (refHeld_ok (rbC _ hC7) hinv2.byr hral)).mono ?_; rintro e w8 ⟨rfl, hB8⟩; rw [hinv2.bad, hinv2.hel])
          have hC8 : Below W6.heap.size W6 w8 := hC7.trans (hB8.mono hC7.size)
          refine ⟨hC8, ?_⟩
          repeat (
            refine wpTr_q (v := ?_) rfl (fun _ h => by cases h) (fun _ => rfl) rfl (fun w' hw => ?_) ?_
            rotate_left
            · (have x0 := (hw.cell (p := ⟨w1.heap.size, 0, none⟩) hlt6).trans d0; have x1 := (hw.cell (p := ⟨w1.heap.size, 1, none⟩) hlt6).trans d1; have x2 := (hw.cell (p := ⟨w1.heap.size, 2, none⟩) hlt6).trans d2; first | (go_simp; done) | (go_simp; with_reducible rfl))
            try simp only [Act.put, List.getElem_toArray, List.getElem_cons_zero, List.getElem_cons_succ, List.setIfInBounds_toArray, List.set_cons_succ, List.set_cons_zero])
          refine wpTr_l rfl ?_
          gi_wp2_with (gi_at_call 15; refine (callsIn_wide.2 (failed_ok (fmC _ hC8))).mono ?_; rintro e w9 ⟨rfl, hw9⟩; have hw9 := hw9.symm; subst hw9)
          refine ⟨hC8, ?_⟩
          repeat (
            refine wpTr_q (v := ?_) rfl (fun _ h => by cases h) (fun _ => rfl) rfl (fun w' hw => ?_) ?_
            rotate_left
            · (have x0 := (hw.cell (p := ⟨w1.heap.size, 0, none⟩) hlt6).trans d0; have x1 := (hw.cell (p := ⟨w1.heap.size, 1, none⟩) hlt6).trans d1; have x2 := (hw.cell (p := ⟨w1.heap.size, 2, none⟩) hlt6).trans d2; first | (go_simp; done) | (go_simp; with_reducible rfl))
            try simp only [Act.put, List.getElem_toArray, List.getElem_cons_zero, List.getElem_cons_succ, List.setIfInBounds_toArray, List.set_cons_succ, List.set_cons_zero])
          refine wpTr_nil ?_
          have low8 : Below w.heap.size w w8 := low6.trans (hC8.mono low6.size)
          have hu8 : w8.cell? ⟨b, off + k, none⟩ = some u := (low8.cell (p := ⟨b, off + k, none⟩) g2).trans hu
          have hub8 : Bs w8 (fun k => w.heap.size ≤ k) u x := hub.belowA low8
          have row8 := ownsRow.ext (S := fun _ => False) (Ext.of_below hC8) row6 (fun _ _ h => h)
          have fm8 := fmC _ hC8
          have rb8 := rbC _ hC8
          have box8 : w8.heap[w1.heap.size]? = some (.cells #[.slice qr ra2.length cr, .int .i64 td2, .bool fl2] 29 (0, 0)) := (hC8.block _ hlt6).trans hbox6
          have hlt8 : w1.heap.size < w8.heap.size := Nat.lt_of_lt_of_le hlt6 hC8.size
          clear fmC rbC fm6 rb6 fv6 ov6 row6 low6 hbox6 d0 d1 d2 hB8
          gi_wp2_with (gi_at_builtin; refine wpListIn_append_bs _ rfl (.tmp 74) (.tmp 78) rfl w.heap.size _ _ _ rfl row8 _ x _ rfl hub8 (by omega) low8.size ?_; intro v9 w9 hown9 hg9 hob9)
          have hLS := LS.push low8 (Nat.le_refl _) hlt1 hlt8 fm8 hinv2 box8 rb8 row8 hS.ne hg9 hown9 hob9
          have hfs : (l.take (k + 1)).flatten = (l.take k).flatten ++ x := by rw [List.take_add_one, hx]; simp
          refine ⟨⟨k + 1, held2, fl2, ra2, td2, _, by omega, by go_num, by rw [hfs]; exact hLS⟩, ?_⟩
          simp [intOf]; omega
        · gi_wp2
          obtain ⟨WB, hWB⟩ : ∃ WB, (w2.alloc (.cells #[.slice none 0 0, .int .i64 0, .bool false] 29)).drew = WB := ⟨_, rfl⟩
          have hxB : Ext (fun _ => False) w2 WB := by rw [← hWB]; exact ((Ext.refl _ w2).alloc _).drew
          have hCB : Below w2.heap.size w2 WB := hxB.below (Nat.le_refl _) (fun _ _ h => h)
          have hzB : WB.heap[w2.heap.size]? = some (.cells #[.slice none 0 0, .int .i64 0, .bool false] 29 (0, 0)) := by rw [← hWB]; exact World.alloc_heap_new w2 _
          rw [hWB]
          clear hWB
          refine ⟨hCB, ?_⟩
          refine wpTr_l rfl ?_
          gi_wp2_with (gi_at_call 11; refine (callsIn_wide.2 (hrf _ (fun k => Trn w.heap.size w1.heap.size u5 k ∨ k = w2.heap.size) ((hrb2.mono (fun k hk h => h.resolve_right (by omega))).keep hxB (fun _ _ h => h.elim)) (hub2.keep hxB (fun _ _ h => h.elim)))).mono ?_; rintro e w3 ⟨rv2, ov, rfl, hrv3, hov3, hB3⟩)
          have hC3 : Below w2.heap.size w2 w3 := hCB.trans (hB3.mono hCB.size)
          refine ⟨hC3, ?_⟩
          obtain ⟨qr, cr, rfl⟩ := hrv3.form
          repeat (
            refine wpTr_q (v := ?_) rfl (fun _ h => by cases h) (fun _ => rfl) rfl (fun w' hw => ?_) ?_
            rotate_left
            · (first | (go_simp; done) | (go_simp; with_reducible rfl))
            try simp only [Act.put, List.getElem_toArray, List.getElem_cons_zero, List.getElem_cons_succ, List.setIfInBounds_toArray, List.set_cons_succ, List.set_cons_zero])
          have hz3 : w3.heap[w2.heap.size]? = some (.cells #[.slice none 0 0, .int .i64 0, .bool false] 29 (0, 0)) := (hB3.block _ (lt_of_block hzB)).trans hzB
          have y0 : w3.cell? ⟨w2.heap.size, 0, none⟩ = some (.slice none 0 0) := by simp [World.cell?, hz3]
          have y1 : w3.cell? ⟨w2.heap.size, 1, none⟩ = some (.int .i64 0) := by simp [World.cell?, hz3]
          have y2 : w3.cell? ⟨w2.heap.size, 2, none⟩ = some (.bool false) := by simp [World.cell?, hz3]
          have y3 : w3.frozen? ⟨w2.heap.size, 0, none⟩ = false := by simp [World.frozen?, hz3]
          have y4 : w3.frozen? ⟨w2.heap.size, 1, none⟩ = false := by simp [World.frozen?, hz3]
          have y5 : w3.frozen? ⟨w2.heap.size, 2, none⟩ = false := by simp [World.frozen?, hz3]
          refine wpTr_l rfl ?_
          gi_wp2
          obtain ⟨W5, hW5⟩ : ∃ W5, ((w3.setCell ⟨w2.heap.size, 0, none⟩ (.slice qr ra2.length cr)).setCell ⟨w2.heap.size, 1, none⟩ (.int .i64 td2)).setCell ⟨w2.heap.size, 2, none⟩ (.bool fl2) = W5 := ⟨_, rfl⟩
          have hC5 : Below w2.heap.size w2 W5 := by
            rw [← hW5]
            exact ((hC3.setCell (p := ⟨w2.heap.size, 0, none⟩) (Nat.le_refl _) _).setCell (p := ⟨w2.heap.size, 1, none⟩) (Nat.le_refl _) _).setCell (p := ⟨w2.heap.size, 2, none⟩) (Nat.le_refl _) _
          have hbx : W5.heap[w2.heap.size]? = some (.cells #[.slice qr ra2.length cr, .int .i64 td2, .bool fl2] 29 (0, 0)) := by
            rw [← hW5]
            exact heap_setCell_at (heap_setCell_at (heap_setCell_at hz3 0 _) 1 _) 2 _
          have hx5 : Ext (fun k => k = w2.heap.size) w3 W5 := by
            rw [← hW5]
            exact (((Ext.refl (fun k => k = w2.heap.size) w3).setCell (p := ⟨w2.heap.size, 0, none⟩) (.inl rfl) _).setCell (p := ⟨w2.heap.size, 1, none⟩) (.inl rfl) _).setCell (p := ⟨w2.heap.size, 2, none⟩) (.inl rfl) _
          have hltB : w2.heap.size < WB.heap.size := lt_of_block hzB
          have hrv5 : Bs W5 (Trn w.heap.size w1.heap.size u5) (.slice qr ra2.length cr) ra2 :=
            ((hrv3.mono (Av' := fun k => Trn w.heap.size w1.heap.size u5 k ∨ k = w2.heap.size) fun k _ hk => ⟨hk, by rcases hk with h | h; exact Nat.lt_trans (Nat.lt_of_lt_of_le (hS.trn_lt h) hX.size) hltB; rw [h]; exact hltB⟩).keep hx5 (fun _ _ h => .inr h)).mono fun k _ hk => .inl hk
          have hov5 : Fs W5 (fun k => k < w2.heap.size) ov fs := (hov3.keep hx5 (fun k _ h => by rw [h]; exact hltB)).mono fun k _ hk => by omega
          rw [hW5]
          refine ⟨hC5, ?_⟩
          repeat (
            refine wpTr_q (v := ?_) rfl (fun _ h => by cases h) (fun _ => rfl) rfl (fun w' hw => ?_) ?_
            rotate_left
            · (first | (go_simp; done) | (go_simp; with_reducible rfl))
            try simp only [Act.put, List.getElem_toArray, List.getElem_cons_zero, List.getElem_cons_succ, List.setIfInBounds_toArray, List.set_cons_succ, List.set_cons_zero])
          refine wpTr_nil ?_
          obtain ⟨bx, hbxe⟩ : ∃ bx, bx = w2.heap.size := ⟨_, rfl⟩
          rw [← hbxe] at hbx
          rw [show (Value.pointer (some ⟨w2.heap.size, 0, none⟩)) = .pointer (some ⟨bx, 0, none⟩) by rw [hbxe]]
          have hbxge : w2.heap.size ≤ bx := Nat.le_of_eq hbxe.symm
          clear hbxe
          clear hW5 hrv3 hov3 hB3 hC3 hx5 hrf y0 y1 y2 y3 y4 y5 hz3 hzB hxB hCB
          have f0 : W5.cell? ⟨bx, 0, none⟩ = some (.slice qr ra2.length cr) := by simp [World.cell?, hbx]
          have f1 : W5.cell? ⟨bx, 1, none⟩ = some (.int .i64 td2) := by simp [World.cell?, hbx]
          have f2 : W5.cell? ⟨bx, 2, none⟩ = some (.bool fl2) := by simp [World.cell?, hbx]
          have hbox5 : W5.heap[w1.heap.size]? = some (.cells #[rv, .int .i64 td, .bool failed] 29 (0, 0)) := (hC5.block _ hlt2).trans hbox2
          have b0 : W5.cell? ⟨w1.heap.size, 0, none⟩ = some rv := by simp [World.cell?, hbox5]
          have b1 : W5.cell? ⟨w1.heap.size, 1, none⟩ = some (.int .i64 td) := by simp [World.cell?, hbox5]
          have b2 : W5.cell? ⟨w1.heap.size, 2, none⟩ = some (.bool failed) := by simp [World.cell?, hbox5]
          have c0 : W5.frozen? ⟨w1.heap.size, 0, none⟩ = false := by simp [World.frozen?, hbox5]
          have c1 : W5.frozen? ⟨w1.heap.size, 1, none⟩ = false := by simp [World.frozen?, hbox5]
          have c2 : W5.frozen? ⟨w1.heap.size, 2, none⟩ = false := by simp [World.frozen?, hbox5]
          have hlt5 : w1.heap.size < W5.heap.size := Nat.lt_of_lt_of_le hlt2 hC5.size
          gi_wp2
          obtain ⟨W6, hW6⟩ : ∃ W6, ((W5.setCell ⟨w1.heap.size, 0, none⟩ (.slice qr ra2.length cr)).setCell ⟨w1.heap.size, 1, none⟩ (.int .i64 td2)).setCell ⟨w1.heap.size, 2, none⟩ (.bool fl2) = W6 := ⟨_, rfl⟩
          have hx6 : Ext (fun k => k = w1.heap.size) W5 W6 := by
            rw [← hW6]
            exact (((Ext.refl (fun k => k = w1.heap.size) W5).setCell (p := ⟨w1.heap.size, 0, none⟩) (.inl rfl) _).setCell (p := ⟨w1.heap.size, 1, none⟩) (.inl rfl) _).setCell (p := ⟨w1.heap.size, 2, none⟩) (.inl rfl) _
          have hbox6 : W6.heap[w1.heap.size]? = some (.cells #[.slice qr ra2.length cr, .int .i64 td2, .bool fl2] 29 (0, 0)) := by
            rw [← hW6]
            exact heap_setCell_at (heap_setCell_at (heap_setCell_at hbox5 0 _) 1 _) 2 _
          rw [hW6]
          clear hW6 hbox5 b0 b1 b2 c0 c1 c2 f0 f1 f2 hbx
          have d0 : W6.cell? ⟨w1.heap.size, 0, none⟩ = some (.slice qr ra2.length cr) := by simp [World.cell?, hbox6]
          have d1 : W6.cell? ⟨w1.heap.size, 1, none⟩ = some (.int .i64 td2) := by simp [World.cell?, hbox6]
          have d2 : W6.cell? ⟨w1.heap.size, 2, none⟩ = some (.bool fl2) := by simp [World.cell?, hbox6]
          have hlt6 : w1.heap.size < W6.heap.size := Nat.lt_of_lt_of_le hlt5 hx6.size
          have hE25 : Ext (fun _ => False) w2 W5 := Ext.of_below hC5
          have fm6 : Fm W6 (Trn w.heap.size w1.heap.size u5) w.heap.size held2 fl2 :=
            ((hfm.mono (fun k _ hk => ⟨hk, hS.trn_lt hk⟩) (.inl rfl)).keep hE25 (fun _ _ h => h.elim) (fun h => h)).keep hx6 (fun _ _ h => .inr (.inl h)) (fun h => hnb h.symm)
          have rb6 : Bs W6 (Trn w.heap.size w1.heap.size u5) (.slice qr ra2.length cr) ra2 := hrv5.keep hx6 (fun _ _ h => .inr (.inl h))
          have fv6 : Fs W6 (fun k => k < wr.heap.size) fv fs := (hfr.fs.keep hE25 (fun _ _ h => h.elim)).keep hx6 (fun k _ h => by rw [h]; exact hS.lt)
          have ov6 : Fs W6 (fun k => k < w2.heap.size) ov fs := hov5.keep hx6 (fun k _ h => by rw [h]; exact hlt2)
          have row6 : W6.ownsRow w.heap.size 5 1 u5 (l.take k).flatten.length ((l.take k).flatten.map (.int .u8)) :=
            ownsRow.ext hx6 (ownsRow.ext hE25 (ownsRow.ext hX hS.row (fun k hk => (hS.ne k hk).1)) (fun _ _ h => h)) (fun k hk => (hS.ne k hk).2)
          have low6 : Below w.heap.size w W6 := below_ext ((below_ext hS.low hX (fun k hk => by omega) hS.low.size).trans (hC5.mono (Nat.le_trans hS.low.size hX.size))) hx6 (fun k hk => by rw [hk]; omega) (by omega)
          clear hrv5 hov5 hfm hfr hbox2 e0 e1 e2 hrb2 hub2 hu2 hX hE25 hx6 hC5
          refine wpIn_region_tr (.q 0 (.q 1 (.l 2 (.q 3 (.q 4 (.q 5 (.q 6 (.q 7 (.q 8 (.q 9 (.q 10 (.q 12 (.l 11 (.l 13 (.q 14 (.q 15 (.q 16 (.q 17 (.q 19 (.q 20 (.l 18 (.q 21 (.q 22 .nil))))))))))))))))))))))) (fun w' => Below W6.heap.size W6 w') (by kernel_rfl) (by kernel_rfl) (Below.refl _ W6).drew ?_
          repeat (
            refine wpTr_q (v := ?_) rfl (fun _ h => by cases h) (fun _ => rfl) rfl (fun w' hw => ?_) ?_
            rotate_left
            · (have x0 := (hw.cell (p := ⟨w1.heap.size, 0, none⟩) hlt6).trans d0; have x1 := (hw.cell (p := ⟨w1.heap.size, 1, none⟩) hlt6).trans d1; have x2 := (hw.cell (p := ⟨w1.heap.size, 2, none⟩) hlt6).trans d2; first | (go_simp; done) | (go_simp; with_reducible rfl))
            try simp only [Act.put, List.getElem_toArray, List.getElem_cons_zero, List.getElem_cons_succ, List.setIfInBounds_toArray, List.set_cons_succ, List.set_cons_zero])
          refine wpTr_l rfl ?_
          gi_wp2_with (gi_at_call 12; refine (callsIn_wide.2 (same_ok (fv6.keep (S := fun _ => False) (Ext.of_below (Below.refl _ W6).drew) (fun _ _ h => h.elim)) (ov6.keep (S := fun _ => False) (Ext.of_below (Below.refl _ W6).drew) (fun _ _ h => h.elim)) (by omega) hfl2)).mono ?_; rintro e w7 ⟨rfl, n7, hw7⟩; have hC7 : Below W6.heap.size W6 w7 := (by rw [hw7]; exact ⟨rfl, rfl, rfl, Nat.le_refl _, fun _ _ => rfl⟩); clear hw7; rw [decide_eq_true (rfl : fs = fs)])
          refine ⟨hC7, ?_⟩
          repeat (
            refine wpTr_q (v := ?_) rfl (fun _ h => by cases h) (fun _ => rfl) rfl (fun w' hw => ?_) ?_
            rotate_left
            · (have x0 := (hw.cell (p := ⟨w1.heap.size, 0, none⟩) hlt6).trans d0; have x1 := (hw.cell (p := ⟨w1.heap.size, 1, none⟩) hlt6).trans d1; have x2 := (hw.cell (p := ⟨w1.heap.size, 2, none⟩) hlt6).trans d2; first | (go_simp; done) | (go_simp; with_reducible rfl))
            try simp only [Act.put, List.getElem_toArray, List.getElem_cons_zero, List.getElem_cons_succ, List.setIfInBounds_toArray, List.set_cons_succ, List.set_cons_zero])
          refine wpTr_l rfl ?_
          have hral : ra2.length ≤ 1000000 := by
            have hh := hinv2.len
            rw [List.length_append] at hh
            omega
          have fmC : ∀ W, Below W6.heap.size W6 W → Fm W (Trn w.heap.size w1.heap.size u5) w.heap.size held2 fl2 := fun W h => fm6.keep (S := fun _ => False) (Ext.of_below h) (fun _ _ h => h.elim) (fun h => h)
          have rbC : ∀ W, Below W6.heap.size W6 W → Bs W (Trn w.heap.size w1.heap.size u5) (.slice qr ra2.length cr) ra2 := fun W h => rb6.belowA h
          gi_wp2_with (gi_at_call 13; refine (callsIn_wide.2 (held_ok (fmC _ hC7))).mono ?_; rintro e w8 ⟨rfl, hw8⟩; have hw8 := hw8.symm; subst hw8)
          refine ⟨hC7, ?_⟩
          refine wpTr_l rfl ?_
          gi_wp2_with (gi_at_call 14; refine (callsIn_wide.2 (refHeld_ok (rbC _ hC7) hinv2.byr hral)).mono ?_; rintro e w8 ⟨rfl, hB8⟩; rw [hinv2.bad, hinv2.hel])
          have hC8 : Below W6.heap.size W6 w8 := hC7.trans (hB8.mono hC7.size)
          refine ⟨hC8, ?_⟩
          repeat (
            refine wpTr_q (v := ?_) rfl (fun _ h => by cases h) (fun _ => rfl) rfl (fun w' hw => ?_) ?_
            rotate_left
            · (have x0 := (hw.cell (p := ⟨w1.heap.size, 0, none⟩) hlt6).trans d0; have x1 := (hw.cell (p := ⟨w1.heap.size, 1, none⟩) hlt6).trans d1; have x2 := (hw.cell (p := ⟨w1.heap.size, 2, none⟩) hlt6).trans d2; first | (go_simp; done) | (go_simp; with_reducible rfl))
            try simp only [Act.put, List.getElem_toArray, List.getElem_cons_zero, List.getElem_cons_succ, List.setIfInBounds_toArray, List.set_cons_succ, List.set_cons_zero])
          refine wpTr_l rfl ?_
          gi_wp2_with (gi_at_call 15; refine (callsIn_wide.2 (failed_ok (fmC _ hC8))).mono ?_; rintro e w9 ⟨rfl, hw9⟩; have hw9 := hw9.symm; subst hw9)
          refine ⟨hC8, ?_⟩
          repeat (
            refine wpTr_q (v := ?_) rfl (fun _ h => by cases h) (fun _ => rfl) rfl (fun w' hw => ?_) ?_
            rotate_left
            · (have x0 := (hw.cell (p := ⟨w1.heap.size, 0, none⟩) hlt6).trans d0; have x1 := (hw.cell (p := ⟨w1.heap.size, 1, none⟩) hlt6).trans d1; have x2 := (hw.cell (p := ⟨w1.heap.size, 2, none⟩) hlt6).trans d2; first | (go_simp; done) | (go_simp; with_reducible rfl))
            try simp only [Act.put, List.getElem_toArray, List.getElem_cons_zero, List.getElem_cons_succ, List.setIfInBounds_toArray, List.set_cons_succ, List.set_cons_zero])
          refine wpTr_nil ?_
          have low8 : Below w.heap.size w w8 := low6.trans (hC8.mono low6.size)
          have hu8 : w8.cell? ⟨b, off + k, none⟩ = some u := (low8.cell (p := ⟨b, off + k, none⟩) g2).trans hu
          have hub8 : Bs w8 (fun k => w.heap.size ≤ k) u x := hub.belowA low8
          have row8 := ownsRow.ext (S := fun _ => False) (Ext.of_below hC8) row6 (fun _ _ h => h)
          have fm8 := fmC _ hC8
          have rb8 := rbC _ hC8
          have box8 : w8.heap[w1.heap.size]? = some (.cells #[.slice qr ra2.length cr, .int .i64 td2, .bool fl2] 29 (0, 0)) := (hC8.block _ hlt6).trans hbox6
          have hlt8 : w1.heap.size < w8.heap.size := Nat.lt_of_lt_of_le hlt6 hC8.size
          clear fmC rbC fm6 rb6 fv6 ov6 row6 low6 hbox6 d0 d1 d2 hB8
          gi_wp2_with (gi_at_builtin; refine wpListIn_append_bs _ rfl (.tmp 74) (.tmp 78) rfl w.heap.size _ _ _ rfl row8 _ x _ rfl hub8 (by omega) low8.size ?_; intro v9 w9 hown9 hg9 hob9)
          have hLS := LS.push low8 (Nat.le_refl _) hlt1 hlt8 fm8 hinv2 box8 rb8 row8 hS.ne hg9 hown9 hob9
          have hfs : (l.take (k + 1)).flatten = (l.take k).flatten ++ x := by rw [List.take_add_one, hx]; simp
          refine ⟨⟨k + 1, held2, fl2, ra2, td2, _, by omega, by go_num, by rw [hfs]; exact hLS⟩, ?_⟩
          simp [intOf]; omega
      · have he : k = l.length := by omega
        subst he
        rw [List.take_length] at hS
        have hA : l.flatten.length ≤ 3000 := by rw [total_flatten]; exact h3000
        have h5 : Own5 wr w.heap.size u5 l.flatten := hS.row
        have hbA : Bs wr (fun k => wr.heap.size ≤ k) u5 l.flatten := h5.bs.any
        have hbyA := hS.inv.byt
        have hlow := hS.low
        obtain ⟨F, rest, bad, hsp⟩ : ∃ F rest bad, splitL l.flatten = (F, rest, bad) := ⟨_, _, _, rfl⟩
        have hs1 := split_calls u5 l.flatten wr hbA hbyA (by omega)
        have hs2 := fun (W : World) (h : Bs W (fun k => wr.heap.size ≤ k) u5 l.flatten) => refSplit_ok h hbyA (by omega)
        have hcn := splitL_count l.flatten.length l.flatten (Nat.le_refl _)
        have hle := congrArg List.length (split_eq l.flatten)
        rw [hsp] at hs1 hcn hle
        simp only [hsp] at hs2
        simp only [List.length_append] at hs1 hcn hle
        have hFl : ∀ f ∈ F, f.length ≤ 1000000 := fun f hf => by
          have h3 : f.length ≤ F.flatten.length := (List.sublist_flatten_of_mem hf).length_le
          omega
        clear hsp hS h5
        gi_wp2_with (gi_at_call 16; refine (callsIn_wide.2 hs1).mono ?_; rintro e w2 ⟨vf, vl, rfl, hfr, hvl, hB2⟩)
        have hb2 := hbA.belowA hB2
        gi_wp2_with (gi_at_call 17; refine (callsIn_wide.2 (hs2 _ hb2)).mono ?_; rintro e w3 ⟨fv2, lv2, rfl, hfr3, hlv3, hB3⟩)
        have fa3 : Fs w3 (fun k => k < wr.heap.size) vf F := hfr.fs.keep (S := fun _ => False) (Ext.of_below hB3) (fun _ _ h => h.elim)
        have ha3 : Bs w3 (fun k => k < wr.heap.size) vl rest := hvl.bs.belowA hB3
        have hl3 : Bs w3 (fun k => wr.heap.size ≤ k) lv2 rest := hlv3.belowA hB3
        gi_wp2_with (fail)
        gi_at_call 12
        refine (callsIn_wide.2 (same_ok fa3 hfr3.fs (by omega) hFl)).mono ?_
        rintro e w4 ⟨rfl, n4, rfl⟩
        rw [decide_eq_true (rfl : F = F)]
        gi_wp2_with (fail)
        gi_at_call 18
        refine (callsIn_wide.2 (bytes_eq _ _ rest rest _ _ _ (ha3.drewN n4) (hl3.drewN n4) (by omega))).mono ?_
        rintro e w5 ⟨rfl, n5, hw5⟩
        rw [decide_eq_true (rfl : rest = rest)]
        have hB5 : Below w.heap.size w w5 := by
          have h1 : Below w.heap.size w w3 := (hlow.trans (hB2.mono hlow.size)).trans (hB3.mono (Nat.le_trans hlow.size hB2.size))
          rw [hw5]
          exact ⟨h1.os, h1.tape, h1.output, h1.size, h1.block⟩
        clear hw5
        gi_wp2_with (fail)
        gi_at_call 8
        refine (callsIn_wide.2 (sure_ok _)).mono ?_
        rintro e w6 ⟨rfl, hB6⟩
        gi_wp2
        go_ret
        exact ⟨rfl, hB5.trans (hB6.mono hB5.size)⟩
end Go.Proofs.Ytlacngdbembkkaa
