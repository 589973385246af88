/- What the document's Put does. -/
import Derived.Test.YtihdjneoemlddaaRefTake
import Derived.Deep.RegionWith
import Derived.Deep.Slices
namespace Go.Proofs.Ytihdjneoemlddaa
open Go.RowKit Go.Conc

theorem Try.info30 : (Try.prog.info? 30).map (fun i => (i.zero, i.size, i.bytes)) = some (some (.slice none 0 0), 1, 24) := by kernel_rfl

theorem wpList_append_gen (w : World) {ops : Array Oper} {rest : List Oper} {o : Oper} {a : Act} {Q : Exit → Act → World → Prop} (hgd : o.guard = none) (s x : Operand) (t e : TypeId)
    (ho : o.op = .call { callee := .builtin .append, args := #[s, x], argTypes := #[t, t] }) (ht : Try.prog.underlying t = some (.slice e)) {z : Value} {bytes : Nat} (hinfo : (Try.prog.info? e).map (fun i => (i.zero, i.size, i.bytes)) = some (some z, 1, bytes)) (hzs : z.cells.size = 1) (hb24 : bytes ≤ 24) (base : Nat)
    (v : Value) (n : Nat) (xs : List Value) (hs : a.eval s = v) (hown : w.ownsRow base e 1 v n xs)
    (q : Option Addr) (m cap : Nat) (news : List Value) (hx : a.eval x = .slice q m cap) (hl : news.length = m) (hq : m ≠ 0 → ∃ ad, q = some ad ∧ ∀ j u, news[j]? = some u → w.cell? (ad.add j) = some u) (h1 : ∀ u ∈ news, u.oneCell' = true)
    (hn : n + m ≤ 1000000000) (hbase : base ≤ w.heap.size)
    (h : ∀ v' w', w'.ownsRow base e 1 v' (n + m) (xs ++ news) → w.grownBy w' v.ownBlock → (v'.ownBlock = v.ownBlock ∨ v'.ownBlock = some w.heap.size) → wpList Try.prog ops Q rest (a.put o.dst v') w') : wpList Try.prog ops Q (o :: rest) a w := by
  obtain ⟨i0, hi, hz0, hz1, hz2⟩ := info_parts hinfo
  by_cases hm : m = 0
  · subst hm
    have hn0 : news = [] := List.length_eq_zero_iff.1 hl
    subst hn0
    cases q with
    | some ad =>
      exact wpList_append_own_at w hgd s x t ho base e i0 z 1 bytes ht hi hz0 hz1 hz2 hzs (by decide) v n xs hs hown ad 0 cap [] hx rfl (fun j u h => by simp at h) (fun u h => by simp at h) (by unfold maxLen; simp at hn ⊢; omega) (Nat.le_trans (Nat.mul_le_mul hn hb24) (by decide)) hbase
        (fun v' w' h1 h2 _ h3 => h v' w' (by simpa using h1) h2 h3)
    | none =>
      refine wpList_plain hgd fun K hK => ?_
      have hrun := run_append_nothing (P := Try.prog) (w := w) base t o.type e i0 1 ht hi v n xs hown cap
      unfold Oper.wp
      simp [execOp, ho, resolve, invoke, builtin, hs, hx, hrun, Result.andThen]
      exact hK _ _ (h v w (by simpa using hown) ⟨rfl, rfl, rfl, Nat.le_refl _, fun _ _ _ => rfl⟩ (.inl rfl))
  · obtain ⟨ad, rfl, hc⟩ := hq hm
    exact wpList_append_own_at w hgd s x t ho base e i0 z 1 bytes ht hi hz0 hz1 hz2 hzs (by decide) v n xs hs hown ad m cap news hx (by omega) hc h1 (by unfold maxLen; omega) (Nat.le_trans (Nat.mul_le_mul hn hb24) (by decide)) hbase
      (fun v' w' h1 h2 _ h3 => h v' w' h1 h2 h3)

instance : Inhabited Value := ⟨.bool false⟩
/-- The values of rows. -/
structure Vals (w : World) (Av : Nat → Prop) (vs : List Value) (L : List (List Int)) : Prop where
  len : vs.length = L.length
  bs : ∀ (j : Nat) (u : Value) (l : List Int), vs[j]? = some u → L[j]? = some l → Bs w Av u l
theorem Vals.one {w : World} {Av : Nat → Prop} {vs : List Value} {L : List (List Int)} (h : Vals w Av vs L) : ∀ u ∈ vs, u.oneCell' = true := by
  intro u hu
  obtain ⟨j, hj⟩ := List.mem_iff_getElem?.1 hu
  have hjl := (List.getElem?_eq_some_iff.1 hj).1
  rw [h.len] at hjl
  obtain ⟨q, cap, rfl, _⟩ := h.bs j u _ hj (List.getElem?_eq_getElem hjl)
  rfl
theorem Vals.turn {w w' : World} {Av Av' S : Nat → Prop} {vs : List Value} {L : List (List Int)} (h : Vals w Av vs L) (hx : Ext S w w') (hs : ∀ k, k < w.heap.size → S k → Av k) (ha : ∀ k, k < w.heap.size → Av' k → Av k) : Vals w' Av' vs L :=
  ⟨h.len, fun j u l a b => (h.bs j u l a b).turn hx hs ha⟩
theorem Vals.snoc {w : World} {Av : Nat → Prop} {vs : List Value} {L : List (List Int)} (h : Vals w Av vs L) {u : Value} {l : List Int} (hu : Bs w Av u l) : Vals w Av (vs ++ [u]) (L ++ [l]) := by
  refine ⟨by simp [h.len], fun j v m a b => ?_⟩
  by_cases hj : j < vs.length
  · rw [List.getElem?_append_left hj] at a
    rw [List.getElem?_append_left (by rw [← h.len]; exact hj)] at b
    exact h.bs j v m a b
  · have hjl := (List.getElem?_eq_some_iff.1 a).1
    have hj' : j = vs.length := by simp at hjl; omega
    subst hj'
    simp at a
    rw [h.len] at b
    simp at b
    subst a b
    exact hu
theorem Bss.vals {w : World} {Av : Nat → Prop} {v : Value} {L : List (List Int)} (h : Bss w Av v L) : ∃ q cap vs, v = .slice q L.length cap ∧ Vals w Av vs L ∧ (L.length ≠ 0 → ∃ ad, q = some ad ∧ ∀ j u, vs[j]? = some u → w.cell? (ad.add j) = some u) := by
  obtain ⟨q, cap, rfl, hc, h⟩ := h
  by_cases hL : L = []
  · subst hL
    exact ⟨q, cap, [], rfl, ⟨rfl, fun j u l a => by simp at a⟩, fun h => absurd rfl h⟩
  · obtain ⟨b, off, rfl, h1, h2, h3⟩ := h hL
    obtain ⟨f, hf⟩ := Go.Deep.choose_lt (n := L.length) (p := fun j u => w.cell? ⟨b, off + j, none⟩ = some u ∧ ∀ l, L[j]? = some l → Bs w Av u l) (fun j hj => by
      obtain ⟨u, hu, hb⟩ := h3 j _ (List.getElem?_eq_getElem hj)
      exact ⟨u, hu, fun l e => by rw [List.getElem?_eq_getElem hj] at e; cases e; exact hb⟩)
    refine ⟨_, cap, (List.range L.length).map f, rfl, ⟨by simp, fun j u l a b => ?_⟩, fun _ => ⟨⟨b, off, none⟩, rfl, fun j u a => ?_⟩⟩
    · have hj := (List.getElem?_eq_some_iff.1 b).1
      simp [hj] at a
      subst a
      exact (hf j hj).2 l b
    · have hj := (List.getElem?_eq_some_iff.1 a).1
      simp at hj
      simp [hj] at a
      subst a
      rw [Go.WideShapes.add_plain]
      exact (hf j hj).1
theorem Bss.of_vals {w : World} {base : Nat} {Av : Nat → Prop} {v : Value} {L : List (List Int)} {vs : List Value} (hown : w.ownsRow base 30 1 v L.length vs) (hv : Vals w Av vs L) (hav : ∀ k, Av k → k < base) : Bss w Av v L := by
  rcases hown.2 with ⟨rfl, h0⟩ | ⟨g, cap, cur, rfl, hb, hg, hc, hm, hsz, ht⟩
  · exact ⟨none, 0, by rw [h0], by omega, fun hl => absurd (List.length_eq_zero_iff.1 h0) hl⟩
  · refine ⟨some ⟨g, 0, none⟩, cap, rfl, hc, fun hl => ⟨g, 0, rfl, fun a => by have := hav g a; omega, lt_of_block hg, fun j l hj => ?_⟩⟩
    have hjl : j < L.length := (List.getElem?_eq_some_iff.1 hj).1
    have hjv : j < vs.length := by rw [hv.len]; exact hjl
    have hvj : vs[j]? = some vs[j] := List.getElem?_eq_getElem (by rw [hv.len]; exact hjl)
    refine ⟨vs[j], ?_, hv.bs j _ l hvj hj⟩
    have : (cur.toList.take (L.length * 1))[j]? = some vs[j] := by rw [ht]; exact hvj
    rw [List.getElem?_take_of_lt (by omega)] at this
    simp only [World.cell?, hg]
    simpa using this

theorem Like.put {L : List (List Int)} {t : Nat} {first : List Int} {pieces : List (List Int)} (h : Like L t first pieces) (l : List Int) : Like (L ++ [l]) t first (pieces ++ [l]) := by
  rcases h.or with ⟨h1, h2, rfl⟩ | ⟨x, h1, h2, rfl, h4⟩
  · exact ⟨.inl ⟨h1, h2, rfl⟩⟩
  · exact ⟨.inr ⟨x, h1, h2, rfl, h4⟩⟩

theorem Bss.turn2 {S : Nat → Prop} {w w' : World} {Av : Nat → Prop} {v : Value} {L : List (List Int)} (h : Bss w Av v L) (hx : Ext S w w') (hs : ∀ k, S k → Av k) : Bss w' Av v L := h.turn hx (fun k _ s => hs k s) (fun _ _ a => a)
/-- The document's rows behind a Put. -/
def refL (cl : Bool) (room : Nat) (pieces : List (List Int)) (l : List Int) (L : List (List Int)) : List (List Int) := if cl = false ∧ pieces.length < room ∧ l ≠ [] then L ++ [l] else L

set_option maxHeartbeats 6400000 in
set_option maxRecDepth 20000 in
theorem refPut_eq {w : World} {Av : Nat → Prop} {lv : Value} {L : List (List Int)} {t room : Nat} {cl : Bool} {first : List Int} {pieces : List (List Int)} (h : Bss w Av lv L) (hk : Like L t first pieces) (hn : L.length ≤ 99999) (hav : ∀ k, Av k → k < w.heap.size)
    (v : Value) (l : List Int) (Av' : Nat → Prop) (hv : Bs w Av' v l) (hln : l.length ≤ 1000000) :
    Calls Try.prog 8 #[.agg #[.int .i64 room, lv, .int .i64 t, .bool cl], v] w fun e w' => ∃ lv', e = .returned (.tuple #[.agg #[.int .i64 room, lv', .int .i64 t, .bool cl], .bool (!cl && decide (pieces.length < room))]) ∧ Bss w' Av lv' (refL cl room pieces l L) ∧ Ext (fun _ => False) w w' := by
  obtain ⟨q, cap, rfl, hc, h'⟩ := id h
  cases cl with
  | true =>
    go_enter Try.func8, Try.ntmps8
    go_wp2_with fail
    generalize hw2 : (w.alloc (.cells #[.int .i64 room, .slice q L.length cap, .int .i64 t, .bool true] 29)).alloc (.cells #[.int .i64 0, .slice none 0 0, .int .i64 0, .bool false] 29) = w2
    have hsz : w2.heap.size = w.heap.size + 2 := by rw [← hw2]; simp
    have hX2 : Ext (fun _ => False) w w2 := by rw [← hw2]; exact ((Ext.refl _ w).alloc _).alloc _
    have hA : RefAt w2 w.heap.size room (.slice q L.length cap) t true := by
      rw [← hw2]
      exact (RefAt.new w room (.slice q L.length cap) t true rfl).keep ((Ext.refl (fun _ => False) _).alloc _) (fun h => h)
    have hR : RefAt w2 (w.heap.size + 1) 0 (.slice none 0 0) 0 false := by
      rw [← hw2]
      have := RefAt.new (w.alloc (.cells #[.int .i64 room, .slice q L.length cap, .int .i64 t, .bool true] 29)) 0 (.slice none 0 0) 0 false rfl
      simpa using this
    have hB2 : Bss w2 (AvB Av w) (.slice q L.length cap) L := h.old.turn hX2 (fun _ _ h => h.elim) (fun _ _ a => a)
    have hv2 : Bs w2 Av' v l := hv.keep hX2 (fun _ _ h => h.elim)
    clear hw2
    have c0 := hA.c0
    have c1 := hA.c1
    have c2 := hA.c2
    have c3 := hA.c3
    go_quiet (fail)
    have hXq := hX2.drewN nq
    have hAq := hA.keep ((Ext.refl (fun _ => False) w2).drewN nq) (fun h => h)
    have hRN := hR.keep ((Ext.refl (fun _ => False) w2).drewN nq) (fun h => h)
    have hBq : Bss (w2.drewN nq) (AvB Av w) _ L := hB2.turn ((Ext.refl (fun _ => False) w2).drewN nq) (fun _ _ h => h.elim) (fun _ _ a => a)
    clear c0 c1 c2 c3 hA hR hB2 hX2 hv2
    generalize w2.drewN nq = w3 at *
    have c0 := hAq.c0
    have c1 := hAq.c1
    have c2 := hAq.c2
    have c3 := hAq.c3
    have r0 := hRN.c0
    have r1 := hRN.c1
    have r2 := hRN.c2
    have r3 := hRN.c3
    have q0 := hRN.f0
    have q1 := hRN.f1
    have q2 := hRN.f2
    have q3 := hRN.f3
    go_wp2_with fail
    obtain ⟨hRF, Y⟩ := hRN.all room (.slice q L.length cap) t true
    generalize ((((w3.setCell ⟨w.heap.size + 1, 0, none⟩ (.int .i64 room)).setCell ⟨w.heap.size + 1, 1, none⟩ (.slice q L.length cap)).setCell ⟨w.heap.size + 1, 2, none⟩ (.int .i64 t)).setCell ⟨w.heap.size + 1, 3, none⟩ (.bool true)) = WF at *
    refine bodyPost_ret ?_ rfl ⟨.slice q L.length cap, rfl, ?_, ?_⟩
    · simp [results, Try.results8, go_sem, hRF.c0, hRF.c1, hRF.c2, hRF.c3]
    · exact hBq.turn Y (fun k _ e => .inr (by omega)) (fun _ _ a => .inl a)
    · exact (hXq.mono (T := fun k => w.heap.size ≤ k) (fun _ _ h => h.elim)).trans (Y.mono (fun _ _ h => by omega)) |>.mono (fun k hk h => by omega)
  | false =>
    by_cases hr : pieces.length < room
    · rw [show (!false && decide (pieces.length < room)) = true by simp [hr]]
      have hr1 : decide ((room : Int) ≤ (pieces.length : Int)) = false := by simp; omega
      have hr2 : (pieces.length : Int) < (room : Int) := by omega
      go_enter Try.func8, Try.ntmps8
      go_wp2_with fail
      generalize hw2 : (w.alloc (.cells #[.int .i64 room, .slice q L.length cap, .int .i64 t, .bool false] 29)).alloc (.cells #[.int .i64 0, .slice none 0 0, .int .i64 0, .bool false] 29) = w2
      have hsz : w2.heap.size = w.heap.size + 2 := by rw [← hw2]; simp
      have hX2 : Ext (fun _ => False) w w2 := by rw [← hw2]; exact ((Ext.refl _ w).alloc _).alloc _
      have hA : RefAt w2 w.heap.size room (.slice q L.length cap) t false := by
        rw [← hw2]
        exact (RefAt.new w room (.slice q L.length cap) t false rfl).keep ((Ext.refl (fun _ => False) _).alloc _) (fun h => h)
      have hR : RefAt w2 (w.heap.size + 1) 0 (.slice none 0 0) 0 false := by
        rw [← hw2]
        have := RefAt.new (w.alloc (.cells #[.int .i64 room, .slice q L.length cap, .int .i64 t, .bool false] 29)) 0 (.slice none 0 0) 0 false rfl
        simpa using this
      have hB2 : Bss w2 (AvB Av w) (.slice q L.length cap) L := h.old.turn hX2 (fun _ _ h => h.elim) (fun _ _ a => a)
      have hv2 : Bs w2 Av' v l := hv.keep hX2 (fun _ _ h => h.elim)
      clear hw2
      have c0 := hA.c0
      have c1 := hA.c1
      have c2 := hA.c2
      have c3 := hA.c3
      go_region_with (go_at_call 17; refine (refPieces_eq (hB2.turn (Ext.refl (fun _ => False) w2).drew (fun _ _ h => h.elim) (fun _ _ a => a)) hk (by omega)).mono ?_; rintro e w3 ⟨rfl, hX3⟩; have d0 := (hA.keep ((Ext.refl (fun _ => False) w2).drew.trans hX3) (fun h => h)).c0)
      all_goals
        have X3 := (Ext.refl (fun _ => False) w2).drew.trans hX3
        have hA3 := hA.keep X3 (fun h => h)
        have hRN := hR.keep X3 (fun h => h)
        have hB3 : Bss w3 (AvB Av w) (.slice q L.length cap) L := hB2.turn X3 (fun _ _ h => h.elim) (fun _ _ a => a)
        have hv3 : Bs w3 Av' v l := hv2.keep X3 (fun _ _ h => h.elim)
        have hXq := hX2.trans X3
        clear d0 c0 c1 c2 c3 hA hR hB2 hv2 hX3
        have c0 := hA3.c0
        have c1 := hA3.c1
        have c2 := hA3.c2
        have c3 := hA3.c3
        have r0 := hRN.c0
        have r1 := hRN.c1
        have r2 := hRN.c2
        have r3 := hRN.c3
        have q0 := hRN.f0
        have q1 := hRN.f1
        have q2 := hRN.f2
        have q3 := hRN.f3
        obtain ⟨pv, cv, rfl, hcv, hv'⟩ := id hv3
        by_cases hl : l = []
        · have hl1 : l.length = 0 := by simp [hl]
          rw [hl1]
          clear hl1 hv'
          go_wp2_with fail
          obtain ⟨hRF, Y⟩ := hRN.all room (.slice q L.length cap) t false
          generalize ((((w3.setCell ⟨w.heap.size + 1, 0, none⟩ (.int .i64 room)).setCell ⟨w.heap.size + 1, 1, none⟩ (.slice q L.length cap)).setCell ⟨w.heap.size + 1, 2, none⟩ (.int .i64 t)).setCell ⟨w.heap.size + 1, 3, none⟩ (.bool false)) = WF at *
          refine bodyPost_ret ?_ rfl ⟨.slice q L.length cap, rfl, ?_, ?_⟩
          · simp [results, Try.results8, go_sem, hRF.c0, hRF.c1, hRF.c2, hRF.c3]
          · rw [show refL false room pieces l L = L by simp [refL, hl]]
            exact hB3.turn Y (fun k _ e => .inr (by omega)) (fun _ _ a => .inl a)
          · exact (hXq.mono (T := fun k => w.heap.size ≤ k) (fun _ _ h => h.elim)).trans (Y.mono (fun _ _ h => by omega)) |>.mono (fun k hk h => by omega)
        · have hl0 : (0 : Int) < ((l.length : Nat) : Int) := by have := List.length_pos_iff.2 hl; omega
          have hsz3 := hXq.size
          have hszX := X3.size
          have c1a := (hA3.keep ((Ext.refl (fun _ => False) w3).alloc (.cells #[] 30)) (fun h => h)).c1
          have hBa : Bss (w3.alloc (.cells #[] 30)) (AvB Av w) (.slice q L.length cap) L := hB3.turn ((Ext.refl (fun _ => False) w3).alloc _) (fun _ _ h => h.elim) (fun _ _ a => a)
          obtain ⟨q', cap', vs, ev, hvals, hcells⟩ := hBa.vals
          cases ev
          have hown0 : (w3.alloc (.cells #[] 30)).ownsRow w3.heap.size 30 1 (.slice (some ⟨w3.heap.size, 0, none⟩) 0 0) 0 [] := World.ownsRow_lit w3 #[] 0 (Nat.le_refl _) (by decide) rfl
          go_wp2_with (first
            | (at_builtin; refine wpList_append_gen _ rfl (.tmp 19) (.tmp 21) 27 30 rfl Try.underlying27 Try.info30 rfl (by decide) w3.heap.size _ 0 [] rfl hown0 q L.length cap vs rfl hvals.len hcells hvals.one (by omega) (by simp) ?_))
          intro v1 w4 hown1 hgrow1 hat1
          have X4 : Ext (fun _ => False) w3 w4 := Ext.grown ((Ext.refl _ w3).alloc _) hgrow1 (fun k e => .inr (by simp [Value.ownBlock] at e; omega))
          have hvals4 : Vals w4 (AvB Av w) vs L := hvals.turn (Ext.grown (Ext.refl (fun k => w3.heap.size ≤ k) _) hgrow1 (fun k e => .inl (by simp [Value.ownBlock] at e; omega))) (fun k _ s => .inr (by omega)) (fun _ _ a => a)
          have hv4 : Bs (w4.alloc (.cells #[] 5)) Av' (.slice pv l.length cv) l := (hv3.keep X4 (fun _ _ h => h.elim)).keep ((Ext.refl (fun _ => False) w4).alloc _) (fun _ _ h => h.elim)
          have hl1 := hown1.lt
          have hsz4 := X4.size
          clear hcells hgrow1 hat1 hvals hown0 hBa hv' c1a
          have hown0' : (w4.alloc (.cells #[] 5)).ownsRow w4.heap.size 5 1 (.slice (some ⟨w4.heap.size, 0, none⟩) 0 0) 0 [] := World.ownsRow_lit w4 #[] 0 (Nat.le_refl _) (by decide) rfl
          go_wp2_with (first
            | (at_builtin; refine wpList_append_bs _ rfl (.tmp 23) (.tmp 24) rfl w4.heap.size _ _ _ rfl hown0' _ l _ rfl hv4 (by omega) (by simp) ?_))
          intro v2 w5 hown2 hgrow2 hat2
          have X5 : Ext (fun _ => False) w4 w5 := Ext.grown ((Ext.refl _ w4).alloc _) hgrow2 (fun k e => .inr (by simp [Value.ownBlock] at e; omega))
          have hl2 := hown2.lt
          have hsz5 := X5.size
          have hown1' : (w5.alloc (.cells #[v2] 30)).ownsRow w3.heap.size 30 1 v1 L.length vs := ((hown1.alloc _).kept hgrow2 (.inr (by intro e; exact absurd (hl1 w4.heap.size (by rw [e]; rfl)).2 (Nat.lt_irrefl _)))).alloc _
          have hb2 : Bs w5 (fun k => Av k ∨ (w.heap.size ≤ k ∧ k < w4.heap.size)) v2 l := (bs_of_owns (by simpa using hown2)).mono (fun k _ a => by rcases a with a | a; have := hav k a; omega; exact a.2)
          have hvals5 : Vals w5 (fun k => Av k ∨ (w.heap.size ≤ k ∧ k < w4.heap.size)) vs L := hvals4.turn X5 (fun _ _ h => h.elim) (fun k _ a => by rcases a with a | a; exact .inl a; exact .inr a.1)
          have hvs := hvals5.snoc hb2
          obtain ⟨qb, cb, rfl, _, _⟩ := id hb2
          clear hown2 hgrow2 hat2 hown0' hv4 hvals4 hvals5 hown1 hb2
          go_wp2_with (first
            | (at_builtin; refine wpList_append_gen _ rfl (.tmp 22) (.tmp 26) 27 30 rfl Try.underlying27 Try.info30 rfl (by decide) w3.heap.size _ _ _ rfl hown1' (some ⟨w5.heap.size, 0, none⟩) 1 1 [_] rfl rfl (fun _ => ⟨_, rfl, cell_one_new _ _ _⟩) (fun u hu => by simp at hu; subst hu; rfl) (by omega) (by simp; omega) ?_))
          intro v3 w6 hown3 hgrow3 hat3
          have X6 : Ext (fun k => v1.ownBlock = some k) w5 w6 := Ext.grown ((Ext.refl _ w5).alloc _) hgrow3 (fun k e => .inl e)
          have hvs6 := hvs.turn X6 (fun k _ e => .inr (by have := hl1 k e; omega)) (Av' := fun k => Av k ∨ k = w.heap.size ∨ k = w.heap.size + 1) (fun k _ a => by rcases a with a | a | a; exact .inl a; exact .inr (by omega); exact .inr (by omega))
          have hB6 : Bss w6 (fun k => Av k ∨ k = w.heap.size ∨ k = w.heap.size + 1) v3 (L ++ [l]) := Bss.of_vals (base := w3.heap.size) (by simpa using hown3) hvs6 (fun k a => by rcases a with a | a | a; have := hav k a; omega; omega; omega)
          have X46 := ((X4.trans X5).mono (T := fun k => v1.ownBlock = some k) (fun _ _ h => h.elim)).trans X6
          have hA6 := hA3.keep X46 (fun e => by have := hl1 _ e; omega)
          have hR6 := hRN.keep X46 (fun e => by have := hl1 _ e; omega)
          have hX6 : Ext (fun k => w.heap.size ≤ k) w w6 := (hXq.mono (T := fun k => w.heap.size ≤ k) (fun _ _ h => h.elim)).trans (X46.mono (fun k _ e => by have := hl1 k e; omega))
          clear hown3 hgrow3 hat3 hvs hvs6 X6 X46 hown1' hl1 hl2 c0 c1 c2 c3 r0 r1 r2 r3 q0 q1 q2 q3 hA3 hRN X4 X5
          obtain ⟨q3', cap3, rfl, _, _⟩ := id hB6
          generalize (L ++ [l]).length = n3 at *
          have f1 := hA6.f1
          have c0 := hA6.c0
          have c1 := hA6.c1
          have c2 := hA6.c2
          have c3 := hA6.c3
          have r0 := hR6.c0
          have r1 := hR6.c1
          have r2 := hR6.c2
          have r3 := hR6.c3
          have q0 := hR6.f0
          have q1 := hR6.f1
          have q2 := hR6.f2
          have q3 := hR6.f3
          go_wp2_with fail
          obtain ⟨hRF, Y⟩ := (hR6.keep ((Ext.refl (fun k => k = w.heap.size) w6).setCell (p := ⟨w.heap.size, 1, none⟩) (.inl rfl) (.slice q3' n3 cap3)) (by omega)).all room (.slice q3' n3 cap3) t false
          have Z0 : Ext (fun k => k = w.heap.size) w6 (w6.setCell ⟨w.heap.size, 1, none⟩ (.slice q3' n3 cap3)) := (Ext.refl (fun k => k = w.heap.size) w6).setCell (p := ⟨w.heap.size, 1, none⟩) (.inl rfl) _
          have Y0 : Ext (fun k => w.heap.size ≤ k) w6 (w6.setCell ⟨w.heap.size, 1, none⟩ (.slice q3' n3 cap3)) := (Ext.refl _ w6).setCell (p := ⟨w.heap.size, 1, none⟩) (.inl (Nat.le_refl _)) (.slice q3' n3 cap3)
          generalize (((((w6.setCell ⟨w.heap.size, 1, none⟩ (.slice q3' n3 cap3)).setCell ⟨w.heap.size + 1, 0, none⟩ (.int .i64 room)).setCell ⟨w.heap.size + 1, 1, none⟩ (.slice q3' n3 cap3)).setCell ⟨w.heap.size + 1, 2, none⟩ (.int .i64 t)).setCell ⟨w.heap.size + 1, 3, none⟩ (.bool false)) = WF at *
          have Y1 := Y0.trans (Y.mono (T := fun k => w.heap.size ≤ k) (fun _ _ h => by omega))
          refine bodyPost_ret ?_ rfl ⟨(.slice q3' n3 cap3), rfl, ?_, ?_⟩
          · simp [results, Try.results8, go_sem, hRF.c0, hRF.c1, hRF.c2, hRF.c3]
          · rw [show refL false room pieces l L = L ++ [l] by simp [refL, hr, hl]]
            exact (hB6.turn Z0 (fun k _ e => .inr (.inl e)) (fun _ _ a => a)).turn Y (fun k _ e => .inr (.inr e)) (fun _ _ a => .inl a)
          · exact (hX6.trans Y1).mono (fun k hk h => by omega)
    · rw [show (!false && decide (pieces.length < room)) = false by simp [hr]]
      have hr1 : decide ((room : Int) ≤ (pieces.length : Int)) = true := by simp; omega
      have hr2 : (room : Int) ≤ (pieces.length : Int) := by omega
      go_enter Try.func8, Try.ntmps8
      go_wp2_with fail
      generalize hw2 : (w.alloc (.cells #[.int .i64 room, .slice q L.length cap, .int .i64 t, .bool false] 29)).alloc (.cells #[.int .i64 0, .slice none 0 0, .int .i64 0, .bool false] 29) = w2
      have hsz : w2.heap.size = w.heap.size + 2 := by rw [← hw2]; simp
      have hX2 : Ext (fun _ => False) w w2 := by rw [← hw2]; exact ((Ext.refl _ w).alloc _).alloc _
      have hA : RefAt w2 w.heap.size room (.slice q L.length cap) t false := by
        rw [← hw2]
        exact (RefAt.new w room (.slice q L.length cap) t false rfl).keep ((Ext.refl (fun _ => False) _).alloc _) (fun h => h)
      have hR : RefAt w2 (w.heap.size + 1) 0 (.slice none 0 0) 0 false := by
        rw [← hw2]
        have := RefAt.new (w.alloc (.cells #[.int .i64 room, .slice q L.length cap, .int .i64 t, .bool false] 29)) 0 (.slice none 0 0) 0 false rfl
        simpa using this
      have hB2 : Bss w2 (AvB Av w) (.slice q L.length cap) L := h.old.turn hX2 (fun _ _ h => h.elim) (fun _ _ a => a)
      have hv2 : Bs w2 Av' v l := hv.keep hX2 (fun _ _ h => h.elim)
      clear hw2
      have c0 := hA.c0
      have c1 := hA.c1
      have c2 := hA.c2
      have c3 := hA.c3
      go_region_with (go_at_call 17; refine (refPieces_eq (hB2.turn (Ext.refl (fun _ => False) w2).drew (fun _ _ h => h.elim) (fun _ _ a => a)) hk (by omega)).mono ?_; rintro e w3 ⟨rfl, hX3⟩; have d0 := (hA.keep ((Ext.refl (fun _ => False) w2).drew.trans hX3) (fun h => h)).c0)
      all_goals
        have X3 := (Ext.refl (fun _ => False) w2).drew.trans hX3
        have hA3 := hA.keep X3 (fun h => h)
        have hRN := hR.keep X3 (fun h => h)
        have hB3 : Bss w3 (AvB Av w) (.slice q L.length cap) L := hB2.turn X3 (fun _ _ h => h.elim) (fun _ _ a => a)
        have hv3 : Bs w3 Av' v l := hv2.keep X3 (fun _ _ h => h.elim)
        have hXq := hX2.trans X3
        clear d0 c0 c1 c2 c3 hA hR hB2 hv2 hX3
        have c0 := hA3.c0
        have c1 := hA3.c1
        have c2 := hA3.c2
        have c3 := hA3.c3
        have r0 := hRN.c0
        have r1 := hRN.c1
        have r2 := hRN.c2
        have r3 := hRN.c3
        have q0 := hRN.f0
        have q1 := hRN.f1
        have q2 := hRN.f2
        have q3 := hRN.f3
        go_wp2_with fail
        obtain ⟨hRF, Y⟩ := hRN.all room (.slice q L.length cap) t false
        generalize ((((w3.setCell ⟨w.heap.size + 1, 0, none⟩ (.int .i64 room)).setCell ⟨w.heap.size + 1, 1, none⟩ (.slice q L.length cap)).setCell ⟨w.heap.size + 1, 2, none⟩ (.int .i64 t)).setCell ⟨w.heap.size + 1, 3, none⟩ (.bool false)) = WF at *
        refine bodyPost_ret ?_ rfl ⟨.slice q L.length cap, rfl, ?_, ?_⟩
        · simp [results, Try.results8, go_sem, hRF.c0, hRF.c1, hRF.c2, hRF.c3]
        · rw [show refL false room pieces l L = L by simp [refL, hr]]
          exact hB3.turn Y (fun k _ e => .inr (by omega)) (fun _ _ a => .inl a)
        · exact (hXq.mono (T := fun k => w.heap.size ≤ k) (fun _ _ h => h.elim)).trans (Y.mono (fun _ _ h => by omega)) |>.mono (fun k hk h => by omega)
end Go.Proofs.Ytihdjneoemlddaa
