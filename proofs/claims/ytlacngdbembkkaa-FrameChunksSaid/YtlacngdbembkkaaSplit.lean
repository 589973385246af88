/- Split: the range over the iterator. -/
import Derived.Test.YtlacngdbembkkaaIter
import Derived.Test.YtlacngdbembkkaaLoads
namespace Go.Proofs.Ytlacngdbembkkaa
open Go.RowKit Go.Shelf
attribute [local go_sem] Oper.semAt_some

theorem Bs.below {w0 W : World} {B : Nat} {v : Value} {l : List Int} (h : Bs w0 (fun k => B ≤ k) v l) (hb : Below B w0 W) : Bs W (fun k => B ≤ k) v l := by
  obtain ⟨p, cap, rfl, hcp, h⟩ := h
  refine ⟨p, cap, rfl, hcp, fun hl => ?_⟩
  obtain ⟨b, off, rfl, h1, h2, h3⟩ := h hl
  exact ⟨b, off, rfl, h1, Nat.lt_of_lt_of_le h2 hb.size, fun j x e => (World.cell?_of_block (hb.block b (by omega))).trans (h3 j x e)⟩

theorem Boxed.oth {B : Nat} {W W' : World} (ho : Oth B W W') {k : Nat} {t : TypeId} {v : Value} (h : Boxed W k t v) : Boxed W' k t v := ho.same _ _ h rfl
theorem ownsRow.oth {B : Nat} {W W' : World} (ho : Oth B W W') {base e size : Nat} {v : Value} {n : Nat} {xs : List Value} (h : W.ownsRow base e size v n xs) : W'.ownsRow base e size v n xs := by
  refine ⟨h.1, ?_⟩
  rcases h.2 with hn | ⟨g, cap, cur, hv, hg, hb, rest⟩
  · exact .inl hn
  · exact .inr ⟨g, cap, cur, hv, hg, ho.same _ _ hb rfl, rest⟩
theorem St.oth {w0 : World} {B : Nat} {l0 : List Int} {bad : Bool} {s : Sta} {W W' : World} (h : St w0 B l0 bad s W) (ho : Oth (B + 4) W W') : St w0 B l0 bad s W' := by
  obtain ⟨vf, us, h1, h2, h3⟩ := h.hf
  refine ⟨⟨ho.os.trans h.low.os, ho.tape.trans h.low.tape, ho.output.trans h.low.output, Nat.le_trans h.low.size ho.size, fun k hk => (ho.low k (by omega) (Nat.lt_of_lt_of_le hk (by have := h.size; omega))).trans (h.low.block k hk)⟩,
    Boxed.oth ho h.hb, ⟨vf, us, Boxed.oth ho h1, ownsRow.oth ho h2, h3.1, fun j x hj => ?_⟩, Boxed.oth ho h.hl, Boxed.oth ho h.hd, Nat.le_trans h.size ho.size, h.base, h.reads, h.sum, h.byt, h.len⟩
  obtain ⟨u, hu, hown⟩ := h3.2 j x hj
  exact ⟨u, hu, ownsRow.oth ho hown⟩

theorem St.setBad {w0 : World} {B : Nat} {l0 : List Int} {s : Sta} {W : World} (h : St w0 B l0 false s W) : St w0 B l0 true s (W.setCell ⟨B + 1 + 1, 0, none⟩ (.bool true)) := by
  have hk : ∀ k t u, Boxed W k t u → k ≠ B + 2 → Boxed (W.setCell ⟨B + 1 + 1, 0, none⟩ (.bool true)) k t u := fun k t u hb hne => hb.kept (grownBy_setCell' W (B + 2) _) (by simpa using hne)
  obtain ⟨vf, us, h1, h2, h3⟩ := h.hf
  exact ⟨h.low.setCell (p := ⟨B + 2, 0, none⟩) (by simp) _, hk _ _ _ h.hb (by omega), ⟨vf, us, hk _ _ _ h1 (by omega), ownsRow_setCell_below h2 (by simp) _, h3.setCell (by simp) _⟩, hk _ _ _ h.hl (by omega), h.hd.set _, by simpa [World.setCell] using h.size, h.base, h.reads, h.sum, h.byt, h.len⟩

theorem ownsRow.below {n0 : Nat} {W W' : World} (hb : Below n0 W W') {base e size : Nat} {v : Value} {n : Nat} {xs : List Value} (h : W.ownsRow base e size v n xs) (hlt : ∀ k, v.ownBlock = some k → k < n0) : W'.ownsRow base e size v n xs := by
  refine ⟨h.1, ?_⟩
  rcases h.2 with hn | ⟨g, cap, cur, hv, hg, hgb, rest⟩
  · exact .inl hn
  · exact .inr ⟨g, cap, cur, hv, hg, (hb.block g (hlt g (by rw [hv]; rfl))).trans hgb, rest⟩
theorem row_ne {W : World} {b1 e1 s1 : Nat} {v1 : Value} {n1 : Nat} {x1 : List Value} (h1 : W.ownsRow b1 e1 s1 v1 n1 x1) {b2 e2 s2 : Nat} {v2 : Value} {n2 : Nat} {x2 : List Value} (h2 : W.ownsRow b2 e2 s2 v2 n2 x2) (he : e1 ≠ e2) :
    v1.ownBlock = none ∨ v1.ownBlock ≠ v2.ownBlock := by
  rcases h1.2 with ⟨rfl, _⟩ | ⟨g, cap, cur, rfl, _, hgb, _⟩
  · exact .inl rfl
  · refine .inr fun e => ?_
    rcases h2.2 with ⟨rfl, _⟩ | ⟨g2, cap2, cur2, rfl, _, hgb2, _⟩
    · simp [Value.ownBlock] at e
    · obtain rfl : g = g2 := by simpa [Value.ownBlock] using e
      have := hgb.symm.trans hgb2
      simp at this
      exact he this.2
theorem KeepsOthers.of_below {n0 : Nat} {W W' : World} (h : Below n0 W W') (hn : W.heap.size ≤ n0) : KeepsOthers W W' :=
  ⟨h.size, fun k _ hk _ => (h.block k (Nat.lt_of_lt_of_le (lt_of_block hk) hn)).trans hk⟩
theorem Try.info27 : (Try.prog.info? 27).map (fun i => (i.zero, i.size, i.bytes)) = some (some (.slice none 0 0), 1, 24) := by kernel_rfl
theorem cells_not_row {W : World} {k t e : Nat} {cs : Array Value} {fr : Nat × Nat} (h : W.heap[k]? = some (.cells cs t fr)) (hte : t ≠ e) {base size m : Nat} {v : Value} {xs : List Value} (hr : W.ownsRow base e size v m xs) : some k ≠ v.ownBlock := by
  rcases hr.2 with ⟨rfl, _⟩ | ⟨g, cap, cur, rfl, _, hgb, _⟩
  · simp [Value.ownBlock]
  · intro e'
    obtain rfl : k = g := by simpa [Value.ownBlock] using e'
    have := h.symm.trans hgb
    simp at this
    exact hte this.2.1
theorem ownsRow.lower {W : World} {base base' e size : Nat} {v : Value} {n : Nat} {xs : List Value} (h : W.ownsRow base e size v n xs) (hb : base' ≤ base) : W.ownsRow base' e size v n xs := by
  refine ⟨h.1, ?_⟩
  rcases h.2 with hn | ⟨g, cap, cur, hv, hg, rest⟩
  · exact .inl hn
  · exact .inr ⟨g, cap, cur, hv, by omega, rest⟩
theorem results_cell3 {fn : Func} {p q r : Tmp} {t u v : TypeId} (h : fn.results = #[.cell p t, .cell q u, .cell r v]) (tmps : Array Value) (P : Program) (w : World) :
    (results fn tmps).run P w =
      ((asAddr (tmps.getD p undef)).run P w).andThen fun a w₁ => ((loadVar t a).run P w₁).andThen fun x w₂ =>
      ((asAddr (tmps.getD q undef)).run P w₂).andThen fun a w₁ => ((loadVar u a).run P w₁).andThen fun y w₂ =>
      ((asAddr (tmps.getD r undef)).run P w₂).andThen fun a w₁ => ((loadVar v a).run P w₁).andThen fun z w₂ => .ok (.tuple #[x, y, z]) w₂ := by
  simp only [results, h]
  simp [Sem.run_bind, Result.andThen]
theorem splitL_count (n : Nat) : ∀ (a : List Int), a.length ≤ n → (splitL a).1.length ≤ a.length := by
  induction n with
  | zero => intro a ha; rw [split_short (b := a) (by omega)]; simp
  | succ n ih =>
    intro a ha
    by_cases h4 : a.length < 4
    · rw [split_short h4]; simp
    · by_cases h8 : told a < 8
      · rw [split_bad h4 h8]; simp
      · by_cases hl : a.length < told a
        · rw [split_wait h4 h8 hl]; simp
        · rw [split_cut h4 h8 hl]
          have := ih (a.drop (told a)) (by simp; omega)
          simp only [List.length_cons, List.length_drop] at this ⊢
          omega

theorem St.pushed {w0 : World} {B : Nat} {l0 : List Int} {s : Sta} {W W1 W2 : World} {vf vf' u lf : Value} {us : List Value} {f rest : List Int} {tmp : Obj} (h : St w0 B l0 false s W) (hvf : Boxed W B 22 vf)
    (hrow : W.ownsRow (B + 4) 27 1 vf s.pre.length us) (hfr : Frs W B s.pre us) (hr : s.rest = f ++ rest) (hs : splitL s.rest = (f :: (splitL rest).1, (splitL rest).2.1, (splitL rest).2.2)) (hl : Bs w0 (fun k => B ≤ k) lf rest)
    (hB1 : Below W.heap.size W.drew W1) (hown1 : Own5 W1 W.heap.size u f) (hgrow : (W1.alloc tmp).grownBy W2 vf.ownBlock) (hown2 : W2.ownsRow (B + 4) 27 1 vf' (s.pre.length + 1) (us ++ [u])) :
    St w0 B l0 false ⟨s.pre ++ [f], rest, s.vb, lf⟩ ((W2.setCell ⟨B, 0, none⟩ vf').setCell ⟨B + 1, 0, none⟩ lf) ∧ KeepsOthers W ((W2.setCell ⟨B, 0, none⟩ vf').setCell ⟨B + 1, 0, none⟩ lf) := by
  have hsz := h.size
  have hs1 : W.heap.size ≤ W1.heap.size := hB1.size
  have hlow : ∀ k, vf.ownBlock = some k → B + 4 ≤ k ∧ k < W.heap.size := fun k hk => hrow.lt k hk
  have hblk : ∀ k, k < B + 4 → W2.heap[k]? = W.heap[k]? := fun k hk =>
    (hgrow.block k (by simp; omega) (fun e => by have := hlow k e.symm; omega)).trans ((Below.heap_alloc W1 _ k (by omega)).trans (hB1.block k (by omega)))
  have hset : ∀ k, k ≠ B → k ≠ B + 1 → ((W2.setCell ⟨B, 0, none⟩ vf').setCell ⟨B + 1, 0, none⟩ lf).heap[k]? = W2.heap[k]? := fun k h1 h2 => by
    rw [Below.heap_setCell _ _ _ _ (by simpa using h2), Below.heap_setCell _ _ _ _ (by simpa using h1)]
  have hother : ∀ k, k < B + 4 → k ≠ B → k ≠ B + 1 → ((W2.setCell ⟨B, 0, none⟩ vf').setCell ⟨B + 1, 0, none⟩ lf).heap[k]? = W.heap[k]? := fun k h0 h1 h2 => (hset k h1 h2).trans (hblk k h0)
  have hvf2 : Boxed W2 B 22 vf := (hblk B (by omega)).trans hvf
  have hl2 : Boxed W2 (B + 1) 27 s.vl := (hblk (B + 1) (by omega)).trans h.hl
  have hrow1 : W1.ownsRow (B + 4) 27 1 vf s.pre.length us := ownsRow.below hB1 (W := W.drew) hrow (fun k hk => (hlow k hk).2)
  have lift : ∀ (n0 : Nat) (v : Value) (x : List Int), W1.ownsRow n0 5 1 v x.length (x.map (.int .u8)) → B + 4 ≤ n0 → Own5 ((W2.setCell ⟨B, 0, none⟩ vf').setCell ⟨B + 1, 0, none⟩ lf) (B + 4) v x := fun n0 v x ho hn => by
    have ho2 : W2.ownsRow n0 5 1 v x.length (x.map (.int .u8)) := (ho.alloc tmp).kept hgrow (row_ne (ho.alloc tmp) (hrow1.alloc tmp) (by decide))
    exact Own5.mono (ownsRow_setCell_below (ownsRow_setCell_below ho2 (by simp; omega) _) (by simp; omega) _) hn
  have hkeep : KeepsOthers W W2 := ((KeepsOthers.drew W).trans (KeepsOthers.of_below hB1 (Nat.le_refl _))).trans ((KeepsOthers.alloc W1 tmp).trans (KeepsOthers.of_grownBy hgrow fun j o ej hj => by
    rcases (hrow1.alloc tmp).2 with ⟨rfl, _⟩ | ⟨g, cap, cur, rfl, _, hgb, _⟩
    · simp [Value.ownBlock] at ej
    · obtain rfl : g = j := by simpa [Value.ownBlock] using ej
      rw [hgb] at hj; cases hj; rfl))
  have hsize2 : W.heap.size ≤ W2.heap.size := Nat.le_trans (Nat.le_trans hs1 (by simp)) hgrow.size
  refine ⟨⟨?_, ?_, ⟨vf', us ++ [u], ?_, ?_, ?_⟩, ?_, ?_, ?_, h.base, hl, ?_, ?_, ?_⟩, (hkeep.trans (KeepsOthers.setCell _ _ _)).trans (KeepsOthers.setCell _ _ _)⟩
  · have b0 : Below B w0 W2 := ⟨hgrow.os.trans (hB1.os.trans h.low.os), hgrow.tape.trans (hB1.tape.trans h.low.tape), hgrow.output.trans (hB1.output.trans h.low.output), Nat.le_trans h.low.size hsize2, fun k hk => (hblk k (by omega)).trans (h.low.block k hk)⟩
    exact (b0.setCell (p := ⟨B, 0, none⟩) (by simp) _).setCell (p := ⟨B + 1, 0, none⟩) (by simp) _
  · exact (hother (B + 3) (by omega) (by omega) (by omega)).trans h.hb
  · exact Boxed.kept (hvf2.set vf') (grownBy_setCell' _ (B + 1) _) (by simp)
  · rw [show (s.pre ++ [f]).length = s.pre.length + 1 by simp]
    exact ownsRow_setCell_below (ownsRow_setCell_below hown2 (by simp) _) (by simp) _
  · refine ⟨by simp [hfr.1], fun j x hj => ?_⟩
    by_cases hjl : j < s.pre.length
    · simp only at hj
      rw [List.getElem?_append_left hjl] at hj
      obtain ⟨u', hu', ho'⟩ := hfr.2 j x hj
      refine ⟨u', by rw [List.getElem?_append_left (by rw [hfr.1]; exact hjl)]; exact hu', lift (B + 4) u' x (ownsRow.below hB1 (W := W.drew) ho' (fun k hk => (World.ownsRow.lt ho' k hk).2)) (Nat.le_refl _)⟩
    · simp only at hj
      have hjl2 : j < (s.pre ++ [f]).length := (List.getElem?_eq_some_iff.1 hj).1
      simp at hjl2
      obtain rfl : j = s.pre.length := by omega
      simp at hj
      subst hj
      exact ⟨u, by rw [← hfr.1]; simp, lift _ u f hown1 hsz⟩
  · have hl3 : Boxed (W2.setCell ⟨B, 0, none⟩ vf') (B + 1) 27 s.vl := hl2.kept (grownBy_setCell' _ B _) (by simp)
    exact hl3.set lf
  · exact (hother (B + 2) (by omega) (by omega) (by omega)).trans h.hd
  · simpa [World.setCell] using Nat.le_trans hsz hsize2
  · rw [h.sum, hs]; simp
  · intro x hx
    exact h.byt x (by rw [hr]; simp [hx])
  · have := h.len
    rw [hr] at this
    simp at this ⊢
    omega

theorem each_in (F : Fence) (n : Nat) (hF : F.fn 23) (hro : F.round = none) (p : Option Addr) (m c : Nat) (w : World) :
    CallsIn F n Try.prog 23 #[.slice p m c] w fun e w' => e = .returned (.func (.func 26) #[] #[.pointer (some ⟨w.heap.size, 0, none⟩)]) ∧ w' = w.alloc (.cells #[.slice p m c] 27) := by
  refine callsIn_of_wp Try.func23 rfl hF ?_ hro
  simp only [Try.ntmps23, List.size_toArray, List.length_cons, List.length_nil, Nat.reduceAdd, Nat.reduceSub, Array.replicate_succ, Array.replicate_zero, List.push_toArray, List.append_toArray, List.nil_append, List.cons_append]
  gi_wp2
  go_ret
  exact ⟨rfl, rfl⟩

/-- The rows of frames. -/
def Fr27 (W : World) (B : Nat) (v : Value) (fs : List (List Int)) : Prop := ∃ us, W.ownsRow B 27 1 v fs.length us ∧ us.length = fs.length ∧ ∀ (j : Nat) (x : List Int), fs[j]? = some x → ∃ u, us[j]? = some u ∧ Own5 W B u x

/-- How a round was left. -/
def Jx (w0 : World) (B : Nat) (l0 : List Int) (c : Code) (s : Sta) (W : World) : Prop := c = .exit 0 ∧ St w0 B l0 true s W ∧ splitL s.rest = ([], s.rest, true)

/-- The variable of the loop. -/
def Ax (w0 : World) (B : Nat) (l0 : List Int) (ts : Array Value) (s : Sta) (x : Cutv) (a : Act) (W : World) : Prop :=
  ∃ Bx, B + 4 ≤ Bx ∧ W.heap[Bx]? = some (.cells #[x.fr, x.lf, .bool x.bad] 52 (0, 0)) ∧ St w0 B l0 false s W ∧ a = { tmps := (ts.setIfInBounds 9 (.agg #[x.fr, x.lf, .bool x.bad])).setIfInBounds 5 (.pointer (some ⟨Bx, 0, none⟩)), defers := [] }

set_option maxHeartbeats 3200000 in
theorem split_ok (v : Value) (l : List Int) (w : World) (h : Bs w (fun k => w.heap.size ≤ k) v l) (hb : Byt l) (hn : l.length ≤ 1000000) :
    CallsIn Fence.wide 3 Try.prog 16 #[v] w fun e w' => ∃ vf vl, e = .returned (.tuple #[vf, vl, .bool (splitL l).2.2]) ∧ Fr27 w' w.heap.size vf (splitL l).1 ∧ Own5 w' w.heap.size vl (splitL l).2.1 ∧ Below w.heap.size w w' := by
  have h0 := h
  obtain ⟨p, cap, rfl, hcp, h⟩ := h
  refine callsIn_of_wp_marks Try.func16 rfl trivial ?_ rfl
  simp only [Try.ntmps16, List.size_toArray, List.length_cons, List.length_nil, Nat.reduceAdd, Nat.reduceSub, Array.replicate_succ, Array.replicate_zero, List.push_toArray, List.append_toArray, List.nil_append, List.cons_append]
  have hf23 : Fence.wide.fn 23 := trivial
  have hf24 : Fence.wide.fn 24 := trivial
  gi_wp2_with (gi_at_call 23; refine (each_in Fence.wide 2 trivial rfl _ _ _ _).mono ?_; rintro e w' ⟨rfl, rfl⟩)
  obtain ⟨W0, hW0⟩ : ∃ W0, (((w.alloc (.cells #[.slice none 0 0] 22)).alloc (.cells #[.slice p l.length cap] 27)).alloc (.cells #[.bool false] 4)).alloc (.cells #[.slice p l.length cap] 27) = W0 := ⟨_, rfl⟩
  have hsz : W0.heap.size = w.heap.size + 4 := by rw [← hW0]; simp
  have hst0 : St w w.heap.size l false ⟨[], l, .slice p l.length cap, .slice p l.length cap⟩ W0 := by
    have b1 : Boxed ((w.alloc (.cells #[.slice none 0 0] 22)).alloc (.cells #[.slice p l.length cap] 27)) (w.heap.size + 1) 27 (.slice p l.length cap) := by
      have := Boxed.new (w.alloc (.cells #[.slice none 0 0] 22)) 27 (.slice p l.length cap)
      simpa using this
    have b2 : Boxed (((w.alloc (.cells #[.slice none 0 0] 22)).alloc (.cells #[.slice p l.length cap] 27)).alloc (.cells #[.bool false] 4)) (w.heap.size + 2) 4 (.bool false) := by
      have := Boxed.new ((w.alloc (.cells #[.slice none 0 0] 22)).alloc (.cells #[.slice p l.length cap] 27)) 4 (.bool false)
      simpa using this
    have b3 : Boxed W0 (w.heap.size + 3) 27 (.slice p l.length cap) := by
      have := Boxed.new (((w.alloc (.cells #[.slice none 0 0] 22)).alloc (.cells #[.slice p l.length cap] 27)).alloc (.cells #[.bool false] 4)) 27 (.slice p l.length cap)
      rw [hW0] at this
      simpa using this
    refine ⟨?_, b3, ⟨.slice none 0 0, [], ?_, World.ownsRow_nil _ _ _ _, rfl, fun j x hj => by simp at hj⟩, ?_, ?_, by omega, rfl, h0, by simp, hb, hn⟩
    · rw [← hW0]
      exact ((((Below.refl _ w).alloc (Nat.le_refl _) _).alloc (by simp) _).alloc (by simp; omega) _).alloc (by simp; omega) _
    · rw [← hW0]; exact (((Boxed.new w 22 (.slice none 0 0)).alloc _).alloc _).alloc _
    · rw [← hW0]; exact (b1.alloc _).alloc _
    · rw [← hW0]; exact b2.alloc _
  clear h
  rw [hW0]
  refine rangeFunc_law rfl (by decide) (gf := 26) (lb := #[.pointer (some ⟨w.heap.size + 3, 0, none⟩)]) rfl trivial (enters_of Try.func26 (by kernel_rfl) rfl)
    Cutv.enc (fun _ => rfl) (fun s W => St w w.heap.size l false s W) (Jx w w.heap.size l) (fun s W W' hs ho => hs.oth (hsz ▸ ho)) (fun c s W W' hs ho => ⟨hs.1, hs.2.1.oth (hsz ▸ ho), hs.2.2⟩)
    ⟨[], l, .slice p l.length cap, .slice p l.length cap⟩ hst0 (Stp w w.heap.size) (fun x => x.bad = false) (fun s => splitL s.rest = ([], s.rest, false))
    (Ax w w.heap.size l #[.slice p l.length cap, undef, .pointer (some ⟨w.heap.size, 0, none⟩), .pointer (some ⟨w.heap.size + 1, 0, none⟩), .pointer (some ⟨w.heap.size + 1 + 1, 0, none⟩), undef, .slice p l.length cap, .slice p l.length cap, .func (.func 26) #[] #[.pointer (some ⟨w.heap.size + 1 + 1 + 1, 0, none⟩)], undef, undef, undef, undef, undef, undef, undef, undef, undef, undef, undef, undef, undef, undef, undef])
    ?hA ?assign ?body ?iter ?done ?stop
  case hA =>
    rintro s x a₁ W W' ⟨Bx, h1, h2, h3, h4⟩ ho
    exact ⟨Bx, h1, ho.same _ _ h2 rfl, h3.oth (hsz ▸ ho), h4⟩
  case assign =>
    rintro k s x s' W K hgo hJ hk hK
    obtain ⟨fp, fn, fc, lp, ln, lc, bad⟩ := x
    simp only [Cutv.enc, Cutv.fr, Cutv.lf]
    gi_wp2
    refine hK _ _ ⟨W.heap.size, ?_, ?_, ?_, rfl⟩ ?_
    · have := hJ.size; omega
    · exact World.alloc_heap_new W _
    · exact hJ.oth (Oth.alloc _ _ _)
    · exact KeepsOthers.alloc _ _
  case body =>
    rintro k s x s' a₁ W hgo ⟨Bx, h1, h2, h3, rfl⟩ hk
    obtain ⟨vf, us, hvf, hrow, hfr⟩ := h3.hf
    have c0 : W.cell? ⟨Bx, 0, none⟩ = some x.fr := by simp [World.cell?, h2]
    have c1 : W.cell? ⟨Bx, 1, none⟩ = some x.lf := by simp [World.cell?, h2]
    have c2 : W.cell? ⟨Bx, 2, none⟩ = some (.bool x.bad) := by simp [World.cell?, h2]
    have d0 := h3.hd.cell
    have d1 := h3.hd.frozen
    cases hgo with
    | bad hx hs =>
      obtain ⟨fp, fn, fc, lp, ln, lc, bad⟩ := x
      simp only [Cutv.fr, Cutv.lf] at *
      simp only [List.setIfInBounds_toArray, List.set_cons_succ, List.set_cons_zero]
      subst hx
      gi_wp2
      have hk1 : KeepsOthers W (W.setCell ⟨w.heap.size + 1 + 1, 0, none⟩ (.bool true)) := KeepsOthers.setCell _ _ _
      have hst2 : St w w.heap.size l true s (W.setCell ⟨w.heap.size + 1 + 1, 0, none⟩ (.bool true)) := h3.setBad
      exact ⟨hk1, rfl, hst2, hs⟩
    | cut f rest hx hr hs hf hl =>
      obtain ⟨fp, fn, fc, lp, ln, lc, bad⟩ := x
      simp only [Cutv.fr, Cutv.lf] at *
      simp only [List.setIfInBounds_toArray, List.set_cons_succ, List.set_cons_zero]
      subst hx
      gi_wp2
      have hvc := hvf.cell
      refine wpIn_region_loads [(0, 2), (1, 3), (2, 0), (6, 4), (7, 4)] [3, 4, 5, 8, 9]
        (fun c w' => w'.heap[Bx]? = some (.cells #[.slice fp fn fc, .slice lp ln lc, .bool false] 52 (0, 0)) ∧ (c ≤ 2 → Boxed w' w.heap.size 22 vf)) (by kernel_rfl) (by kernel_rfl) ⟨h2, fun _ => hvf⟩ ?_
      refine wpQs_cons vf rfl (fun _ h => by cases h) (fun _ => rfl) rfl (fun c w' hc hw => ?_) ?_
      · have hx := (hw.2 hc).cell
        go_simp
      simp only [Act.put, List.setIfInBounds_toArray, List.set_cons_succ, List.set_cons_zero]
      refine wpQs_cons (.pointer (some ⟨Bx, 0, none⟩)) rfl (fun _ h => by cases h) (fun _ => rfl) rfl (fun c w' hc hw => ?_) ?_
      · go_simp
      simp only [Act.put, List.setIfInBounds_toArray, List.set_cons_succ, List.set_cons_zero]
      refine wpQs_cons (.slice fp fn fc) rfl (fun _ h => by cases h) (fun _ => rfl) rfl (fun c w' hc hw => ?_) ?_
      · have hx : w'.cell? ⟨Bx, 0, none⟩ = some (.slice fp fn fc) := by simp [World.cell?, hw.1]
        go_simp
      simp only [Act.put, List.setIfInBounds_toArray, List.set_cons_succ, List.set_cons_zero]
      refine wpQs_cons (.pointer (some ⟨Bx, 1, none⟩)) rfl (fun _ h => by cases h) (fun _ => rfl) rfl (fun c w' hc hw => ?_) ?_
      · go_simp
      simp only [Act.put, List.setIfInBounds_toArray, List.set_cons_succ, List.set_cons_zero]
      refine wpQs_cons (.slice lp ln lc) rfl (fun _ h => by cases h) (fun _ => rfl) rfl (fun c w' hc hw => ?_) ?_
      · have hx : w'.cell? ⟨Bx, 1, none⟩ = some (.slice lp ln lc) := by simp [World.cell?, hw.1]
        go_simp
      simp only [Act.put, List.setIfInBounds_toArray, List.set_cons_succ, List.set_cons_zero]
      refine wpQs_nil ?_
      refine wpLoud_cons rfl ?_
      have hbs : Bs W.drew (fun k => w.heap.size ≤ k) (.slice fp fn fc) f := hf.below (Below.drew h3.low)
      have hlen : f.length ≤ 1000000 := by have := h3.len; rw [hr] at this; simp at this; omega
      gi_wp2_with (gi_at_call 24; refine (CallsIn.inRound k (callsIn_wide.2 (clone_any _ _ _ _ hbs hlen))).mono ?_; rintro e w1 ⟨v', rfl, hown1, hB1⟩)
      have hBx1 : w1.heap[Bx]? = some (.cells #[.slice fp fn fc, .slice lp ln lc, .bool false] 52 (0, 0)) := (hB1.block Bx (lt_of_block h2)).trans h2
      have hvf1 : Boxed w1 w.heap.size 22 vf := (hB1.block _ hvf.lt).trans hvf
      refine ⟨⟨hBx1, fun _ => hvf1⟩, ?_⟩
      obtain ⟨q', c', rfl⟩ := Row.len (Av := fun _ => True) ⟨hown1, fun _ _ => trivial⟩
      refine wpLoud_cons rfl ?_
      gi_wp2
      have hBx1a : (w1.alloc (.cells #[.slice q' f.length c'] 27)).heap[Bx]? = some (.cells #[.slice fp fn fc, .slice lp ln lc, .bool false] 52 (0, 0)) := (Below.heap_alloc _ _ _ (lt_of_block hBx1)).trans hBx1
      have hvf1a := hvf1.alloc (.cells #[.slice q' f.length c'] 27)
      refine ⟨⟨hBx1a, fun _ => hvf1a⟩, ?_⟩
      have hrow1 : w1.ownsRow (w.heap.size + 4) 27 1 vf s.pre.length us := ownsRow.below hB1 (W := W.drew) hrow (fun k hk => (World.ownsRow.lt hrow k hk).2)
      have hrow1a := hrow1.alloc (.cells #[.slice q' f.length c'] 27)
      obtain ⟨i0, hi, hz0, hz1, hz2⟩ := info_parts Try.info27
      have hcount : s.pre.length ≤ 1000000 := by
        have h5 := splitL_count l.length l (Nat.le_refl _)
        rw [h3.sum] at h5
        simp at h5
        omega
      refine wpLoud_cons rfl ?_
      refine wpListIn_append_own _ rfl _ _ _ rfl (w.heap.size + 4) 27 i0 (.slice none 0 0) 1 24 Try.underlying22 hi hz0 hz1 hz2 rfl (by decide) vf _ _ rfl hrow1a ⟨w1.heap.size, 0, none⟩ 1 1 [.slice q' f.length c'] rfl rfl (cell_one_new _ _ _) (by simp [Value.oneCell']) (by unfold maxLen; omega) (by omega) (by have := hB1.size; have := h3.size; simp at *; omega) ?_
      intro vf' w2 hown2 hgrow _
      obtain ⟨g', cap', rfl⟩ := ownsRow_succ hown2
      refine wpListIn_nil ?_
      have hst3 := St.pushed h3 hvf hrow hfr hr hs hl hB1 hown1 hgrow hown2
      have hBx2 : w2.heap[Bx]? = some (.cells #[.slice fp fn fc, .slice lp ln lc, .bool false] 52 (0, 0)) := (hgrow.block Bx (lt_of_block hBx1a) (cells_not_row hBx1a (by decide) hrow1a)).trans hBx1a
      have hvf2 : Boxed w2 w.heap.size 22 vf := hvf1a.kept hgrow (hvf1a.not_row (by decide) hrow1a)
      have hvc2 := hvf2.cell
      have hvz2 := hvf2.frozen
      refine ⟨⟨hBx2, fun h => absurd h (by decide)⟩, ?_⟩
      refine wpLoud_cons rfl ?_
      gi_wp2
      refine ⟨⟨(Below.heap_setCell _ _ _ _ (by have := h3.size; simp; omega)).trans hBx2, fun h => absurd h (by decide)⟩, ?_⟩
      have hl2 : Boxed w2 (w.heap.size + 1) 27 s.vl := (hgrow.block (w.heap.size + 1) (by have := hB1.size; have := h3.size; simp at *; omega) (fun e => by have := (World.ownsRow.lt hrow _ e.symm).1; omega)).trans ((Below.heap_alloc w1 _ _ (by have := hB1.size; have := h3.size; simp at *; omega)).trans ((hB1.block _ h3.hl.lt).trans h3.hl))
      have hlc2 := hl2.cell
      have hlz2 := hl2.frozen
      refine wpLoud_cons rfl ?_
      gi_wp2
      refine ⟨⟨(Below.heap_setCell _ _ _ _ (by have := h3.size; simp; omega)).trans ((Below.heap_setCell _ _ _ _ (by have := h3.size; simp; omega)).trans hBx2), fun h => absurd h (by decide)⟩, ?_⟩
      refine wpLoud_nil ?_
      gi_wp2
      exact ⟨hst3.2, trivial, hst3.1⟩
  case iter =>
    intro k J' Jx' W hk imp step hY h0'
    exact iter_ok 2 (by decide) k J' Jx' W imp step hY _ h0'
  case done =>
    rintro s W hs hJ hK
    gi_wp2
    obtain ⟨vf, us, hvf, hrow, hfr⟩ := hJ.hf
    have hvl := hJ.hl
    have hvd := hJ.hd
    have hsz0 := hJ.size
    refine wpIn_region_loads [(0, 1), (1, 0), (3, 3)] [2, 4, 5, 6]
      (fun c w' => (c ≤ 1 → Boxed w' w.heap.size 22 vf) ∧ (c ≤ 0 → Boxed w' (w.heap.size + 1) 27 s.vl) ∧ Boxed w' (w.heap.size + 2) 4 (.bool false)) (by kernel_rfl) (by kernel_rfl) ⟨fun _ => hvf, fun _ => hvl, hvd⟩ ?_
    refine wpQs_cons vf rfl (fun _ h => by cases h) (fun _ => rfl) rfl (fun c w' hc hw => ?_) ?_
    · have hx := (hw.1 hc).cell
      go_simp
    simp only [Act.put, List.setIfInBounds_toArray, List.set_cons_succ, List.set_cons_zero]
    refine wpQs_cons s.vl rfl (fun _ h => by cases h) (fun _ => rfl) rfl (fun c w' hc hw => ?_) ?_
    · have hx := (hw.2.1 hc).cell
      go_simp
    simp only [Act.put, List.setIfInBounds_toArray, List.set_cons_succ, List.set_cons_zero]
    refine wpQs_cons (.bool false) rfl (fun _ h => by cases h) (fun _ => rfl) rfl (fun c w' hc hw => ?_) ?_
    · have hx : w'.cell? ⟨w.heap.size + 1 + 1, 0, none⟩ = some (.bool false) := hw.2.2.cell
      go_simp
    simp only [Act.put, List.setIfInBounds_toArray, List.set_cons_succ, List.set_cons_zero]
    refine wpQs_nil ?_
    refine wpLoud_cons rfl ?_
    have hbs : Bs W.drew (fun k => w.heap.size ≤ k) s.vl s.rest := hJ.reads.below (Below.drew hJ.low)
    gi_wp2_with (gi_at_call 24; refine (callsIn_wide.2 (clone_any _ _ _ _ hbs hJ.len)).mono ?_; rintro e w1 ⟨v', rfl, hown1, hB1⟩)
    have hvf1 : Boxed w1 w.heap.size 22 vf := (hB1.block _ hvf.lt).trans hvf
    have hvl1 : Boxed w1 (w.heap.size + 1) 27 s.vl := (hB1.block _ hvl.lt).trans hvl
    have hvd1 : Boxed w1 (w.heap.size + 2) 4 (.bool false) := (hB1.block _ hvd.lt).trans hvd
    have hrow1 : w1.ownsRow (w.heap.size + 4) 27 1 vf s.pre.length us := ownsRow.below hB1 (W := W.drew) hrow (fun k hk => (World.ownsRow.lt hrow k hk).2)
    have hK1 : w1.heap[W0.heap.size]? = some (.deferred (some [])) := (hB1.block _ (lt_of_block hK)).trans hK
    obtain ⟨qf, cf, rfl⟩ : ∃ q c, vf = .slice q s.pre.length c := by
      rcases hrow.2 with ⟨rfl, h0⟩ | ⟨g, cap, cur, rfl, _⟩
      · exact ⟨none, 0, by rw [h0]⟩
      · exact ⟨_, cap, rfl⟩
    obtain ⟨qv, cv, rfl⟩ := Row.len (Av := fun _ => True) ⟨hown1, fun _ _ => trivial⟩
    have x1 := hvf1.cell
    have x2 := hvf1.frozen
    have x3 := hvl1.cell
    have x4 := hvl1.frozen
    have x5 : w1.cell? ⟨w.heap.size + 1 + 1, 0, none⟩ = some (.bool false) := hvd1.cell
    have x6 : w1.frozen? ⟨w.heap.size + 1 + 1, 0, none⟩ = false := hvd1.frozen
    refine ⟨⟨fun _ => hvf1, fun h => absurd h (by decide), hvd1⟩, ?_⟩
    refine wpLoud_cons rfl ?_
    gi_wp2
    have hvd2 : Boxed (w1.setCell ⟨w.heap.size, 0, none⟩ (.slice qf s.pre.length cf)) (w.heap.size + 2) 4 (.bool false) := hvd1.kept (grownBy_setCell' _ w.heap.size _) (by simp)
    refine ⟨⟨fun h => absurd h (by decide), fun h => absurd h (by decide), hvd2⟩, ?_⟩
    refine wpLoud_cons rfl ?_
    gi_wp2
    refine ⟨⟨fun h => absurd h (by decide), fun h => absurd h (by decide), hvd2.kept (grownBy_setCell' _ (w.heap.size + 1) _) (by simp)⟩, ?_⟩
    refine wpLoud_cons rfl ?_
    gi_wp2
    refine ⟨⟨fun h => absurd h (by decide), fun h => absurd h (by decide), (hvd2.kept (grownBy_setCell' _ (w.heap.size + 1) _) (by simp)).set _⟩, ?_⟩
    refine wpLoud_nil ?_
    gi_wp2
    obtain ⟨W5, hW5⟩ : ∃ W5, ((w1.setCell ⟨w.heap.size, 0, none⟩ (.slice qf s.pre.length cf)).setCell ⟨w.heap.size + 1, 0, none⟩ (.slice qv s.rest.length cv)).setCell ⟨w.heap.size + 1 + 1, 0, none⟩ (.bool false) = W5 := ⟨_, rfl⟩
    have hK5 : W5.heap[w.heap.size + 4]? = some (.deferred (some [])) := by
      rw [hsz] at hK1
      rw [← hW5, Below.heap_setCell _ _ _ _ (by simp), Below.heap_setCell _ _ _ _ (by simp), Below.heap_setCell _ _ _ _ (by simp)]
      exact hK1
    have y1 : Boxed W5 w.heap.size 22 (.slice qf s.pre.length cf) := by
      rw [← hW5]
      exact ((hvf1.set _).kept (grownBy_setCell' _ (w.heap.size + 1) _) (by simp)).kept (grownBy_setCell' _ (w.heap.size + 1 + 1) _) (by simp; omega)
    have y2 : Boxed W5 (w.heap.size + 1) 27 (.slice qv s.rest.length cv) := by
      rw [← hW5]
      have : Boxed (w1.setCell ⟨w.heap.size, 0, none⟩ (.slice qf s.pre.length cf)) (w.heap.size + 1) 27 s.vl := hvl1.kept (grownBy_setCell' _ w.heap.size _) (by simp)
      exact (this.set _).kept (grownBy_setCell' _ (w.heap.size + 1 + 1) _) (by simp)
    have y3 : Boxed W5 (w.heap.size + 1 + 1) 4 (.bool false) := by
      rw [← hW5]
      exact (hvd2.kept (grownBy_setCell' _ (w.heap.size + 1) _) (by simp)).set _
    rw [hW5]
    have b5 : Below w.heap.size w W5 := by
      rw [← hW5]
      exact ((Below.trans hJ.low.drew (hB1.mono (by have := hJ.low.size; simpa using this))).setCell (p := ⟨w.heap.size, 0, none⟩) (Nat.le_refl _) _ |>.setCell (p := ⟨w.heap.size + 1, 0, none⟩) (by simp) _).setCell (p := ⟨w.heap.size + 1 + 1, 0, none⟩) (by simp; omega) _
    have b6 : Below w.heap.size w (W5.putObj (w.heap.size + 4) (.deferred none)) := ⟨b5.os, b5.tape, b5.output, by simpa using b5.size, fun k hk => (World.putObj_heap_other (by omega)).trans (b5.block k hk)⟩
    have z1 : Boxed (W5.putObj (w.heap.size + 4) (.deferred none)) w.heap.size 22 (.slice qf s.pre.length cf) := (World.putObj_heap_other (by omega)).trans y1
    have z2 : Boxed (W5.putObj (w.heap.size + 4) (.deferred none)) (w.heap.size + 1) 27 (.slice qv s.rest.length cv) := (World.putObj_heap_other (by omega)).trans y2
    have z3 : Boxed (W5.putObj (w.heap.size + 4) (.deferred none)) (w.heap.size + 1 + 1) 4 (.bool false) := (World.putObj_heap_other (by omega)).trans y3
    have c1 := z1.cell
    have c2 := z2.cell
    have c3 := z3.cell
    refine ⟨by simp, .inl ⟨_, _, rfl, run_takeDeferred hK5, ?_⟩⟩
    refine ⟨.tuple #[.slice qf s.pre.length cf, .slice qv s.rest.length cv, .bool false], ?_, ?_⟩
    · rw [results_cell3 rfl]
      go_simp
    · have hsum := hJ.sum
      rw [hs] at hsum
      simp only [List.append_nil] at hsum
      refine ⟨_, _, by rw [hsum], ?_, ?_, b6⟩
      · rw [hsum]
        refine ⟨us, ?_, hfr.1, fun j x hj => ?_⟩
        · refine ownsRow_putObj (l := w.heap.size + 4) (o := .deferred (some [])) ?_ _ hK5 rfl
          rw [← hW5]
          exact ownsRow.lower (ownsRow_setCell_below (ownsRow_setCell_below (ownsRow_setCell_below hrow1 (by simp) _) (by simp) _) (by simp) _) (by omega)
        · obtain ⟨u, hu, ho⟩ := hfr.2 j x hj
          have ho1 : Own5 w1 (w.heap.size + 4) u x := ownsRow.below hB1 (W := W.drew) ho (fun k hk => (World.ownsRow.lt ho k hk).2)
          have ho5 : Own5 W5 (w.heap.size + 4) u x := by
            rw [← hW5]
            exact ownsRow_setCell_below (ownsRow_setCell_below (ownsRow_setCell_below ho1 (by simp) _) (by simp) _) (by simp) _
          exact ⟨u, hu, Own5.mono (ownsRow_putObj ho5 _ hK5 rfl) (by omega)⟩
      · rw [hsum]
        have ho5 : Own5 W5 W.heap.size (.slice qv s.rest.length cv) s.rest := by
          rw [← hW5]
          exact ownsRow_setCell_below (ownsRow_setCell_below (ownsRow_setCell_below hown1 (by simp; omega) _) (by simp; omega) _) (by simp; omega) _
        exact Own5.mono (ownsRow_putObj ho5 _ hK5 rfl) (by omega)
  case stop =>
    rintro c s W ⟨rfl, hJ, hs⟩ hK
    gi_wp2
    obtain ⟨vf, us, hvf, hrow, hfr⟩ := hJ.hf
    have hvl := hJ.hl
    have hvd := hJ.hd
    have hsz0 := hJ.size
    refine wpIn_region_loads [(0, 1), (1, 0), (3, 3)] [2, 4, 5, 6]
      (fun c w' => (c ≤ 1 → Boxed w' w.heap.size 22 vf) ∧ (c ≤ 0 → Boxed w' (w.heap.size + 1) 27 s.vl) ∧ Boxed w' (w.heap.size + 2) 4 (.bool true)) (by kernel_rfl) (by kernel_rfl) ⟨fun _ => hvf, fun _ => hvl, hvd⟩ ?_
    refine wpQs_cons vf rfl (fun _ h => by cases h) (fun _ => rfl) rfl (fun c w' hc hw => ?_) ?_
    · have hx := (hw.1 hc).cell
      go_simp
    simp only [Act.put, List.setIfInBounds_toArray, List.set_cons_succ, List.set_cons_zero]
    refine wpQs_cons s.vl rfl (fun _ h => by cases h) (fun _ => rfl) rfl (fun c w' hc hw => ?_) ?_
    · have hx := (hw.2.1 hc).cell
      go_simp
    simp only [Act.put, List.setIfInBounds_toArray, List.set_cons_succ, List.set_cons_zero]
    refine wpQs_cons (.bool true) rfl (fun _ h => by cases h) (fun _ => rfl) rfl (fun c w' hc hw => ?_) ?_
    · have hx : w'.cell? ⟨w.heap.size + 1 + 1, 0, none⟩ = some (.bool true) := hw.2.2.cell
      go_simp
    simp only [Act.put, List.setIfInBounds_toArray, List.set_cons_succ, List.set_cons_zero]
    refine wpQs_nil ?_
    refine wpLoud_cons rfl ?_
    have hbs : Bs W.drew (fun k => w.heap.size ≤ k) s.vl s.rest := hJ.reads.below (Below.drew hJ.low)
    gi_wp2_with (gi_at_call 24; refine (callsIn_wide.2 (clone_any _ _ _ _ hbs hJ.len)).mono ?_; rintro e w1 ⟨v', rfl, hown1, hB1⟩)
    have hvf1 : Boxed w1 w.heap.size 22 vf := (hB1.block _ hvf.lt).trans hvf
    have hvl1 : Boxed w1 (w.heap.size + 1) 27 s.vl := (hB1.block _ hvl.lt).trans hvl
    have hvd1 : Boxed w1 (w.heap.size + 2) 4 (.bool true) := (hB1.block _ hvd.lt).trans hvd
    have hrow1 : w1.ownsRow (w.heap.size + 4) 27 1 vf s.pre.length us := ownsRow.below hB1 (W := W.drew) hrow (fun k hk => (World.ownsRow.lt hrow k hk).2)
    have hK1 : w1.heap[W0.heap.size]? = some (.deferred (some [])) := (hB1.block _ (lt_of_block hK)).trans hK
    obtain ⟨qf, cf, rfl⟩ : ∃ q c, vf = .slice q s.pre.length c := by
      rcases hrow.2 with ⟨rfl, h0⟩ | ⟨g, cap, cur, rfl, _⟩
      · exact ⟨none, 0, by rw [h0]⟩
      · exact ⟨_, cap, rfl⟩
    obtain ⟨qv, cv, rfl⟩ := Row.len (Av := fun _ => True) ⟨hown1, fun _ _ => trivial⟩
    have x1 := hvf1.cell
    have x2 := hvf1.frozen
    have x3 := hvl1.cell
    have x4 := hvl1.frozen
    have x5 : w1.cell? ⟨w.heap.size + 1 + 1, 0, none⟩ = some (.bool true) := hvd1.cell
    have x6 : w1.frozen? ⟨w.heap.size + 1 + 1, 0, none⟩ = false := hvd1.frozen
    refine ⟨⟨fun _ => hvf1, fun h => absurd h (by decide), hvd1⟩, ?_⟩
    refine wpLoud_cons rfl ?_
    gi_wp2
    have hvd2 : Boxed (w1.setCell ⟨w.heap.size, 0, none⟩ (.slice qf s.pre.length cf)) (w.heap.size + 2) 4 (.bool true) := hvd1.kept (grownBy_setCell' _ w.heap.size _) (by simp)
    refine ⟨⟨fun h => absurd h (by decide), fun h => absurd h (by decide), hvd2⟩, ?_⟩
    refine wpLoud_cons rfl ?_
    gi_wp2
    refine ⟨⟨fun h => absurd h (by decide), fun h => absurd h (by decide), hvd2.kept (grownBy_setCell' _ (w.heap.size + 1) _) (by simp)⟩, ?_⟩
    refine wpLoud_cons rfl ?_
    gi_wp2
    refine ⟨⟨fun h => absurd h (by decide), fun h => absurd h (by decide), (hvd2.kept (grownBy_setCell' _ (w.heap.size + 1) _) (by simp)).set _⟩, ?_⟩
    refine wpLoud_nil ?_
    gi_wp2
    obtain ⟨W5, hW5⟩ : ∃ W5, ((w1.setCell ⟨w.heap.size, 0, none⟩ (.slice qf s.pre.length cf)).setCell ⟨w.heap.size + 1, 0, none⟩ (.slice qv s.rest.length cv)).setCell ⟨w.heap.size + 1 + 1, 0, none⟩ (.bool true) = W5 := ⟨_, rfl⟩
    have hK5 : W5.heap[w.heap.size + 4]? = some (.deferred (some [])) := by
      rw [hsz] at hK1
      rw [← hW5, Below.heap_setCell _ _ _ _ (by simp), Below.heap_setCell _ _ _ _ (by simp), Below.heap_setCell _ _ _ _ (by simp)]
      exact hK1
    have y1 : Boxed W5 w.heap.size 22 (.slice qf s.pre.length cf) := by
      rw [← hW5]
      exact ((hvf1.set _).kept (grownBy_setCell' _ (w.heap.size + 1) _) (by simp)).kept (grownBy_setCell' _ (w.heap.size + 1 + 1) _) (by simp; omega)
    have y2 : Boxed W5 (w.heap.size + 1) 27 (.slice qv s.rest.length cv) := by
      rw [← hW5]
      have : Boxed (w1.setCell ⟨w.heap.size, 0, none⟩ (.slice qf s.pre.length cf)) (w.heap.size + 1) 27 s.vl := hvl1.kept (grownBy_setCell' _ w.heap.size _) (by simp)
      exact (this.set _).kept (grownBy_setCell' _ (w.heap.size + 1 + 1) _) (by simp)
    have y3 : Boxed W5 (w.heap.size + 1 + 1) 4 (.bool true) := by
      rw [← hW5]
      exact (hvd2.kept (grownBy_setCell' _ (w.heap.size + 1) _) (by simp)).set _
    rw [hW5]
    have b5 : Below w.heap.size w W5 := by
      rw [← hW5]
      exact ((Below.trans hJ.low.drew (hB1.mono (by have := hJ.low.size; simpa using this))).setCell (p := ⟨w.heap.size, 0, none⟩) (Nat.le_refl _) _ |>.setCell (p := ⟨w.heap.size + 1, 0, none⟩) (by simp) _).setCell (p := ⟨w.heap.size + 1 + 1, 0, none⟩) (by simp; omega) _
    have b6 : Below w.heap.size w (W5.putObj (w.heap.size + 4) (.deferred none)) := ⟨b5.os, b5.tape, b5.output, by simpa using b5.size, fun k hk => (World.putObj_heap_other (by omega)).trans (b5.block k hk)⟩
    have z1 : Boxed (W5.putObj (w.heap.size + 4) (.deferred none)) w.heap.size 22 (.slice qf s.pre.length cf) := (World.putObj_heap_other (by omega)).trans y1
    have z2 : Boxed (W5.putObj (w.heap.size + 4) (.deferred none)) (w.heap.size + 1) 27 (.slice qv s.rest.length cv) := (World.putObj_heap_other (by omega)).trans y2
    have z3 : Boxed (W5.putObj (w.heap.size + 4) (.deferred none)) (w.heap.size + 1 + 1) 4 (.bool true) := (World.putObj_heap_other (by omega)).trans y3
    have c1 := z1.cell
    have c2 := z2.cell
    have c3 := z3.cell
    refine ⟨by simp, .inl ⟨_, _, rfl, run_takeDeferred hK5, ?_⟩⟩
    refine ⟨.tuple #[.slice qf s.pre.length cf, .slice qv s.rest.length cv, .bool true], ?_, ?_⟩
    · rw [results_cell3 rfl]
      go_simp
    · have hsum := hJ.sum
      rw [hs] at hsum
      simp only [List.append_nil] at hsum
      refine ⟨_, _, by rw [hsum], ?_, ?_, b6⟩
      · rw [hsum]
        refine ⟨us, ?_, hfr.1, fun j x hj => ?_⟩
        · refine ownsRow_putObj (l := w.heap.size + 4) (o := .deferred (some [])) ?_ _ hK5 rfl
          rw [← hW5]
          exact ownsRow.lower (ownsRow_setCell_below (ownsRow_setCell_below (ownsRow_setCell_below hrow1 (by simp) _) (by simp) _) (by simp) _) (by omega)
        · obtain ⟨u, hu, ho⟩ := hfr.2 j x hj
          have ho1 : Own5 w1 (w.heap.size + 4) u x := ownsRow.below hB1 (W := W.drew) ho (fun k hk => (World.ownsRow.lt ho k hk).2)
          have ho5 : Own5 W5 (w.heap.size + 4) u x := by
            rw [← hW5]
            exact ownsRow_setCell_below (ownsRow_setCell_below (ownsRow_setCell_below ho1 (by simp) _) (by simp) _) (by simp) _
          exact ⟨u, hu, Own5.mono (ownsRow_putObj ho5 _ hK5 rfl) (by omega)⟩
      · rw [hsum]
        have ho5 : Own5 W5 W.heap.size (.slice qv s.rest.length cv) s.rest := by
          rw [← hW5]
          exact ownsRow_setCell_below (ownsRow_setCell_below (ownsRow_setCell_below hown1 (by simp; omega) _) (by simp; omega) _) (by simp; omega) _
        exact Own5.mono (ownsRow_putObj ho5 _ hK5 rfl) (by omega)
end Go.Proofs.Ytlacngdbembkkaa

