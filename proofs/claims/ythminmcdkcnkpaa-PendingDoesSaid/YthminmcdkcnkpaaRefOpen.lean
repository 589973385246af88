/- The document's Open. -/
import Derived.Test.YthminmcdkcnkpaaRefClose
namespace Go.Proofs.Ythminmcdkcnkpaa
open Go.RowKit Go.Maps

theorem run_append_nothing {P : Program} {w : World} (base : Nat) (t ty e : TypeId) (i : TypeInfo) (size : Nat) (ht : P.underlying t = some (.slice e)) (hi : P.info? e = some i) (hsz : i.size = size)
    (v : Value) (n : Nat) (xs : List Value) (hown : w.ownsRow base e size v n xs) (c : Nat) :
    (Builtin.append_ #[t, t] ty #[v, .slice none 0 c]).run P w = .ok v w := by
  rcases hown.2 with ⟨rfl, rfl⟩ | ⟨g, cap, cur, rfl, _, _, hnc, _⟩
  · simp [Builtin.append_, run_underlying ht, sizeOf, typeInfo, hi, Builtin.lenOf, Builtin.firstCells]
  · simp [Builtin.append_, run_underlying ht, sizeOf, typeInfo, hi, Builtin.lenOf, Builtin.firstCells, hnc, storeCells]

theorem flat_cell {w : World} {b off : Nat} {L : List En} (h : ∀ j e, L[j]? = some e → w.cell? ⟨b, off + j * 2, none⟩ = some (.int .u32 e.1) ∧ w.cell? ⟨b, off + j * 2 + 1, none⟩ = some (.int .i64 e.2.1)) :
    ∀ j u, (flat L)[j]? = some u → w.cell? ((⟨b, off, none⟩ : Addr).add j) = some u := by
  intro j u hu
  have hjl := (List.getElem?_eq_some_iff.1 hu).1
  rw [flat_len] at hjl
  have hk : j / 2 < L.length := by omega
  obtain ⟨e, he⟩ : ∃ e, L[j / 2]? = some e := ⟨_, List.getElem?_eq_getElem hk⟩
  obtain ⟨f1, f2⟩ := flat_get he
  obtain ⟨h1, h2⟩ := h _ _ he
  rw [Go.WideShapes.add_plain]
  rcases (show j = j / 2 * 2 ∨ j = j / 2 * 2 + 1 by omega) with hj | hj
  · have e2 : off + j = off + j / 2 * 2 := by omega
    rw [e2, h1, ← f1, ← hj, hu]
  · have e2 : off + j = off + j / 2 * 2 + 1 := by omega
    rw [e2, h2, ← f2, ← hj, hu]

theorem wpList_append_rl (w : World) {ops : Array Oper} {rest : List Oper} {o : Oper} {a : Act} {Q : Exit → Act → World → Prop} (hgd : o.guard = none) (s x : Operand)
    (ho : o.op = .call { callee := .builtin .append, args := #[s, x], argTypes := #[37, 37] }) (base : Nat)
    (v : Value) (n : Nat) (xs : List Value) (hs : a.eval s = v) (hown : w.ownsRow base 47 2 v n xs)
    (u : Value) (L : List En) (Av : Nat → Prop) (hx : a.eval x = u) (hb : Rl w Av u L) (hn : n + L.length ≤ 1000000) (hbase : base ≤ w.heap.size)
    (h : ∀ v' w', w'.ownsRow base 47 2 v' (n + L.length) (xs ++ flat L) → w.grownBy w' v.ownBlock → wpList Try.prog ops Q rest (a.put o.dst v') w') : wpList Try.prog ops Q (o :: rest) a w := by
  obtain ⟨i0, hi, hz0, hz1, hz2⟩ := info_parts Try.info47
  obtain ⟨q, cap, rfl, hcp, hb⟩ := hb
  by_cases hl : L = []
  · subst hl
    cases q with
    | some ad =>
      exact wpList_append_own_at w hgd s x 37 ho base 47 i0 (.agg #[.int .u32 0, .int .i64 0]) 2 16 Try.underlying37 hi hz0 hz1 hz2 rfl (by decide) v n xs hs hown ad 0 cap [] hx rfl (fun j u h => by simp at h) (fun u h => by simp at h) (by unfold maxLen; simp at hn ⊢; omega) (by simp at hn ⊢; omega) hbase
        (fun v' w' h1 h2 _ h3 => h v' w' (by simpa [flat] using h1) h2)
    | none =>
      refine wpList_plain hgd fun K hK => ?_
      have hrun := run_append_nothing (P := Try.prog) (w := w) base 37 o.type 47 i0 2 Try.underlying37 hi hz1 v n xs hown cap
      unfold Oper.wp
      simp [execOp, ho, resolve, invoke, builtin, hs, hx, hrun, Result.andThen]
      exact hK _ _ (h v w (by simpa [flat] using hown) ⟨rfl, rfl, rfl, Nat.le_refl _, fun _ _ _ => rfl⟩)
  · obtain ⟨b, off, rfl, _, _, hc⟩ := hb hl
    exact wpList_append_own_at w hgd s x 37 ho base 47 i0 (.agg #[.int .u32 0, .int .i64 0]) 2 16 Try.underlying37 hi hz0 hz1 hz2 rfl (by decide) v n xs hs hown ⟨b, off, none⟩ L.length cap (flat L) hx (flat_len L) (flat_cell hc) (fun u h => by
        simp only [flat, List.mem_flatMap, wv, List.mem_cons, List.not_mem_nil, or_false] at h
        obtain ⟨e, _, rfl | rfl⟩ := h <;> rfl) (by unfold maxLen; omega) (by omega) hbase
      (fun v' w' h1 h2 _ h3 => h v' w' h1 h2)

theorem Bx.set3 {W : World} {B : Nat} {r l : Int} {v : Value} (h : Bx W B r l v) (r' l' : Int) (v' : Value) : Bx (((W.setCell ⟨B, 0, none⟩ (.int .i64 r')).setCell ⟨B, 1, none⟩ (.int .u32 l')).setCell ⟨B, 2, none⟩ v') B r' l' v' := by
  refine ⟨?_, ?_, ?_, fun j => ?_, by have := h.lt; simpa [World.setCell] using this⟩
  · rw [World.cell?_setCell_other _ _ _ _ (by simp), World.cell?_setCell_other _ _ _ _ (by simp)]
    exact World.cell?_setCell_same _ _ _ h.c0
  · rw [World.cell?_setCell_other _ _ _ _ (by simp)]
    refine World.cell?_setCell_same _ _ _ (u := .int .u32 l) ?_
    rw [World.cell?_setCell_other _ _ _ _ (by simp)]
    exact h.c1
  · refine World.cell?_setCell_same _ _ _ (u := v) ?_
    rw [World.cell?_setCell_other _ _ _ _ (by simp), World.cell?_setCell_other _ _ _ _ (by simp)]
    exact h.c2
  · rw [World.frozen?_setCell, World.frozen?_setCell, World.frozen?_setCell]
    exact h.fz j

section
variable {w w' : World} {Av Av' : Nat → Prop} {v : Value} {L : List En}

set_option maxRecDepth 20000 in
set_option maxHeartbeats 6400000 in
theorem refOpen_no (h : Rl w Av v L) (room last k : Int) (hl : L.length ≤ 100000) {c : Int} (hc : (isAsk k = false ∧ c = 10001) ∨ (isAsk k = true ∧ room ≤ L.length ∧ c = 10006)) : Calls Try.prog 21 #[.agg #[.int .i64 room, .int .u32 last, v], .int .i64 k] w fun e w' => e = .returned (.tuple #[.agg #[.int .i64 room, .int .u32 last, v], .int .u32 0, .int .i64 c]) ∧ Below w.heap.size w w' := by
  obtain ⟨q, cap, rfl, hcp, _⟩ := h
  have hT := two_start w room last (.slice q L.length cap)
  have hB : ∀ W, Two w W room last (.slice q L.length cap) 0 0 (.slice none 0 0) → ∀ b c d, Below w.heap.size w (((W.setCell ⟨w.heap.size + 1, 0, none⟩ b).setCell ⟨w.heap.size + 1, 1, none⟩ c).setCell ⟨w.heap.size + 1, 2, none⟩ d) := fun W hT b c d =>
    ((hT.low.setCell (p := ⟨w.heap.size + 1, 0, none⟩) (by simp) b).setCell (p := ⟨w.heap.size + 1, 1, none⟩) (by simp) c).setCell (p := ⟨w.heap.size + 1, 2, none⟩) (by simp) d
  have hans := fun W => refAnswer_ok k W
  rcases hc with ⟨hk, rfl⟩ | ⟨hk, hr, rfl⟩
  · rw [hk] at hans
    go_enter Try.func21, Try.ntmps21
    go_wp2_with fail
    generalize (w.alloc (.cells #[.int .i64 room, .int .u32 last, .slice q L.length cap] 39)).alloc (.cells #[.int .i64 0, .int .u32 0, .slice none 0 0] 39) = W at hT ⊢
    go_at_call 29
    refine (hans W).mono ?_
    rintro e w2 ⟨rfl, hw⟩
    have hw := hw.symm
    subst hw
    have c0 := hT.arg.c0
    have c1 := hT.arg.c1
    have c2 := hT.arg.c2
    have d0 := hT.res.c0
    have d1 := hT.res.c1
    have d2 := hT.res.c2
    have g0 := hT.res.fz 0
    have g1 := hT.res.fz 1
    have g2 := hT.res.fz 2
    go_wp2
    refine bodyPost_ret (v := .tuple #[.agg #[.int .i64 room, .int .u32 last, .slice q L.length cap], .int .u32 0, .int .i64 10001]) (by rw [results_cell_tmp2 rfl]; go_simp) rfl ?_
    exact ⟨rfl, hB _ hT _ _ _⟩
  · rw [hk] at hans
    go_enter Try.func21, Try.ntmps21
    go_wp2_with fail
    generalize (w.alloc (.cells #[.int .i64 room, .int .u32 last, .slice q L.length cap] 39)).alloc (.cells #[.int .i64 0, .int .u32 0, .slice none 0 0] 39) = W at hT ⊢
    go_at_call 29
    refine (hans W).mono ?_
    rintro e w2 ⟨rfl, hw⟩
    have hw := hw.symm
    subst hw
    have c0 := hT.arg.c0
    have c1 := hT.arg.c1
    have c2 := hT.arg.c2
    have d0 := hT.res.c0
    have d1 := hT.res.c1
    have d2 := hT.res.c2
    have g0 := hT.res.fz 0
    have g1 := hT.res.fz 1
    have g2 := hT.res.fz 2
    go_wp2
    refine bodyPost_ret (v := .tuple #[.agg #[.int .i64 room, .int .u32 last, .slice q L.length cap], .int .u32 0, .int .i64 10006]) (by rw [results_cell_tmp2 rfl]; go_simp) rfl ?_
    exact ⟨rfl, hB _ hT _ _ _⟩

set_option maxRecDepth 20000 in
set_option maxHeartbeats 6400000 in
theorem refOpen_ok (h : Rl w Av v L) (room last k t : Int) (hl : L.length < 998) (hr : 0 ≤ last ∧ last < 4294967296) (hk : isAsk k = true) (hroom : (L.length : Int) < room) : Calls Try.prog 21 #[.agg #[.int .i64 room, .int .u32 last, v], .int .i64 k] w fun e w' => ∃ v', e = .returned (.tuple #[.agg #[.int .i64 room, .int .u32 (nx (keys L) last), v'], .int .u32 (nx (keys L) last), .int .i64 0]) ∧
    Rl w' (fun k => k < w.heap.size) v' (L ++ [(nx (keys L) last, k, t)]) ∧ Below w.heap.size w w' := by
  have h0 := h
  obtain ⟨q, cap, rfl, hcp, _⟩ := h0
  have hT := two_start w room last (.slice q L.length cap)
  have hans := fun W => refAnswer_ok k W
  rw [hk] at hans
  have hroom' : ¬ room ≤ (L.length : Int) := by omega
  go_enter Try.func21, Try.ntmps21
  go_wp2_with fail
  generalize (w.alloc (.cells #[.int .i64 room, .int .u32 last, .slice q L.length cap] 39)).alloc (.cells #[.int .i64 0, .int .u32 0, .slice none 0 0] 39) = W at hT ⊢
  go_at_call 29
  refine (hans W).mono ?_
  rintro e w2 ⟨rfl, hw⟩
  have hw := hw.symm
  subst hw
  have c0 := hT.arg.c0
  have c1 := hT.arg.c1
  have c2 := hT.arg.c2
  have hnx := refNext_ok (h.low hT.low) room last hr hl
  clear hans
  go_wp2_with fail
  go_at_call 24
  refine hnx.mono ?_
  rintro e w3 ⟨rfl, hB3⟩
  clear hnx c0 c1 c2
  have hl3 : w.heap.size + 2 ≤ w3.heap.size := by have := hB3.size; have := hT.res.lt; omega
  have hT3 := hT.below hB3
  clear hT hB3
  generalize hx : nx (keys L) last = x
  have c0 := hT3.arg.c0
  have c1 := hT3.arg.c1
  have c2 := hT3.arg.c2
  have f0 := hT3.arg.fz 0
  have f1 := hT3.arg.fz 1
  have f2 := hT3.arg.fz 2
  have hb4 := hT3.arg.set3 room x (.slice q L.length cap)
  have hE4 : Ext (fun k => k = w.heap.size) w3 (((w3.setCell ⟨w.heap.size, 0, none⟩ (.int .i64 room)).setCell ⟨w.heap.size, 1, none⟩ (.int .u32 x)).setCell ⟨w.heap.size, 2, none⟩ (.slice q L.length cap)) := ext_set3 _ _ _
  have hs4 : (((w3.setCell ⟨w.heap.size, 0, none⟩ (.int .i64 room)).setCell ⟨w.heap.size, 1, none⟩ (.int .u32 x)).setCell ⟨w.heap.size, 2, none⟩ (.slice q L.length cap)).heap.size = w3.heap.size := by simp [World.setCell]
  have hE5 := (Ext.refl (fun _ => False) (((w3.setCell ⟨w.heap.size, 0, none⟩ (.int .i64 room)).setCell ⟨w.heap.size, 1, none⟩ (.int .u32 x)).setCell ⟨w.heap.size, 2, none⟩ (.slice q L.length cap))).alloc (.cells #[] 47)
  have hT5 : Two w ((((w3.setCell ⟨w.heap.size, 0, none⟩ (.int .i64 room)).setCell ⟨w.heap.size, 1, none⟩ (.int .u32 x)).setCell ⟨w.heap.size, 2, none⟩ (.slice q L.length cap)).alloc (.cells #[] 47)) room x (.slice q L.length cap) 0 0 (.slice none 0 0) :=
    ⟨hb4.keep hE5 (fun h => h), (hT3.res.keep hE4 (by omega)).keep hE5 (fun h => h), (hT3.low.trans (hE4.below hT3.low.size (fun k h1 h2 => by omega))).trans (hE5.below (by rw [hs4]; omega) (fun k h1 h2 => h2))⟩
  have hrow5 : ((((w3.setCell ⟨w.heap.size, 0, none⟩ (.int .i64 room)).setCell ⟨w.heap.size, 1, none⟩ (.int .u32 x)).setCell ⟨w.heap.size, 2, none⟩ (.slice q L.length cap)).alloc (.cells #[] 47)).ownsRow (w.heap.size + 2) 47 2 (.slice (some ⟨w3.heap.size, 0, none⟩) 0 0) 0 [] := by
    have := (MapKept.heap_alloc (((w3.setCell ⟨w.heap.size, 0, none⟩ (.int .i64 room)).setCell ⟨w.heap.size, 1, none⟩ (.int .u32 x)).setCell ⟨w.heap.size, 2, none⟩ (.slice q L.length cap)) (.cells #[] 47)).1
    rw [hs4] at this
    exact ⟨rfl, .inr ⟨w3.heap.size, 0, #[], rfl, hl3, this, Nat.le_refl _, by unfold maxLen; omega, rfl, rfl⟩⟩
  have hsz5 : w.heap.size + 2 ≤ ((((w3.setCell ⟨w.heap.size, 0, none⟩ (.int .i64 room)).setCell ⟨w.heap.size, 1, none⟩ (.int .u32 x)).setCell ⟨w.heap.size, 2, none⟩ (.slice q L.length cap)).alloc (.cells #[] 47)).heap.size := by have := hE5.size; rw [hs4] at this; omega
  have hRl5 := h.low hT5.low
  have k2 := hT5.arg.c2
  clear hE4 hE5 hs4 hb4 hroom'
  have tok1 : True := trivial
  have tok2 : True := trivial
  obtain ⟨i0, hi, hz0, hz1, hz2⟩ := info_parts Try.info47
  clear hT3
  go_wp2_with (first
    | (at_builtin; have _t := tok1; refine wpList_append_rl _ rfl _ _ rfl (w.heap.size + 2) _ 0 [] rfl hrow5 _ L _ rfl hRl5 (by omega) hsz5 ?_; intro v6 w6 hrow6 hg6; clear tok1 c0 c1 c2 f0 f1 f2 k2
       have hE6 := (Ext.refl (fun k => w.heap.size + 2 ≤ k) _).grown hg6 (fun j e => .inl (row_own2 hrow5 j e))
       have hsz6 : w.heap.size + 2 ≤ w6.heap.size := Nat.le_trans hsz5 hE6.size
       have hT7 := (hT5.keep hE6).below ((Below.refl _ w6).alloc (Nat.le_refl _) (.cells #[.int .u32 x, .int .i64 k] 47))
       have hrow7 := row_ext hrow6 ((Ext.refl (fun _ => False) w6).alloc (.cells #[.int .u32 x, .int .i64 k] 47)) (fun _ _ _ h => h)
       have hsz7 : w.heap.size + 2 ≤ (w6.alloc (.cells #[.int .u32 x, .int .i64 k] 47)).heap.size := (by simp; omega)
       have d0 : (w6.alloc (.cells #[.int .u32 x, .int .i64 k] 47)).cell? ⟨w6.heap.size, 0, none⟩ = some (.int .u32 x) := (by rw [World.cell?_alloc_at _ _ _ _ rfl]; rfl)
       have d1 : (w6.alloc (.cells #[.int .u32 x, .int .i64 k] 47)).cell? ⟨w6.heap.size, 1, none⟩ = some (.int .i64 k) := (by rw [World.cell?_alloc_at _ _ _ _ rfl]; rfl)
       clear hg6 hrow5 hE6 hT5 hrow6 hsz5 hRl5)
    | (at_builtin; have _t := tok2; refine wpList_append_own_at _ rfl _ _ 37 rfl (w.heap.size + 2) 47 i0 (.agg #[.int .u32 0, .int .i64 0]) 2 16 Try.underlying37 hi hz0 hz1 hz2 rfl (by decide) _ (0 + L.length) ([] ++ flat L) rfl hrow7 ⟨w6.heap.size, 0, none⟩ 1 1 (wv (x, k, t)) rfl rfl (fun j u h => (by
          match j, h with
          | 0, h => simp [wv] at h; subst h; exact d0
          | 1, h => simp [wv] at h; subst h; exact d1
          | j + 2, h => simp [wv] at h)) (fun u h => (by simp [wv] at h; rcases h with rfl | rfl <;> rfl)) (by unfold maxLen; omega) (by omega) hsz7 ?_; intro v8 w8 hrow8 hg8 hn8 hl8; clear tok2 hn8 hl8
       have hE8 := (Ext.refl (fun k => w.heap.size + 2 ≤ k) _).grown hg8 (fun j e => .inl (row_own2 hrow7 j e))
       have hT8 := hT7.keep hE8
       clear hE8 hg8 hT7 hrow7 d0 d1 hsz7 hsz6
       obtain ⟨q8, c8, rfl⟩ := row_sl hrow8
       have c0 := hT8.arg.c0
       have c1 := hT8.arg.c1
       have c2 := hT8.arg.c2
       have f2 := hT8.arg.fz 2
       have e0 := hT8.res.c0
       have e1 := hT8.res.c1
       have e2 := hT8.res.c2
       have g0 := hT8.res.fz 0
       have g1 := hT8.res.fz 1
       have g2 := hT8.res.fz 2))
  rw [hx]
  refine bodyPost_ret (v := .tuple #[.agg #[.int .i64 room, .int .u32 x, .slice q8 (L.length + 1) c8], .int .u32 x, .int .i64 0]) (by rw [results_cell_tmp2 rfl]; go_simp) rfl ?_
  have hE : ∀ a b c d, Ext (fun k => k < w.heap.size + 2) w8 ((((w8.setCell ⟨w.heap.size, 2, none⟩ a).setCell ⟨w.heap.size + 1, 0, none⟩ b).setCell ⟨w.heap.size + 1, 1, none⟩ c).setCell ⟨w.heap.size + 1, 2, none⟩ d) := fun a b c d =>
    ((((Ext.refl _ w8).setCell (p := ⟨w.heap.size, 2, none⟩) (.inl (by simp)) a).setCell (p := ⟨w.heap.size + 1, 0, none⟩) (.inl (by simp)) b).setCell (p := ⟨w.heap.size + 1, 1, none⟩) (.inl (by simp)) c).setCell (p := ⟨w.heap.size + 1, 2, none⟩) (.inl (by simp)) d
  have hrow9 : w8.ownsRow (w.heap.size + 2) 47 2 (.slice q8 (L.length + 1) c8) (L ++ [(x, k, t)]).length (flat (L ++ [(x, k, t)])) := by
    rw [flat_snoc, List.length_append]
    simpa using hrow8
  refine ⟨_, rfl, rl_of_row (row_ext hrow9 (hE _ _ _ _) (fun k h1 h2 h3 => by omega)) (fun k hk => by omega), ?_⟩
  exact (((hT8.low.setCell (p := ⟨w.heap.size, 2, none⟩) (Nat.le_refl _) _).setCell (p := ⟨w.heap.size + 1, 0, none⟩) (by simp) _).setCell (p := ⟨w.heap.size + 1, 1, none⟩) (by simp) _).setCell (p := ⟨w.heap.size + 1, 2, none⟩) (by simp) _
end
end Go.Proofs.Ythminmcdkcnkpaa
