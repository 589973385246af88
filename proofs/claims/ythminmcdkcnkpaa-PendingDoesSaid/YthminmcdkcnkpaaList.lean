/- List: the numbers collected. -/
import Derived.Test.YthminmcdkcnkpaaOps
import Derived.Maps.AppendAt
namespace Go.Proofs.Ythminmcdkcnkpaa
open Go.RowKit Go.Maps
section
variable {w w' : World} {p b n : Nat} {room turns last : Int} {L : List En}

/-- What is collected so far. -/
structure Col (L : List En) (left : Lit → Bool) (xs : List Int) : Prop where
  nd : xs.Nodup
  mem : ∀ x, x ∈ xs ↔ (x ∈ keys L ∧ left (ky x) = false)
  wf : ∀ x ∈ xs, 0 ≤ x ∧ x < 4294967296

theorem Col.start {D : Dt} (hM : Mp wd D L) : Col L (has D) [] := ⟨List.nodup_nil, fun x => (by rw [hM.hs]; simp), fun _ h => (by cases h)⟩
theorem Col.step {left : Lit → Bool} {xs : List Int} (h : Col L left xs) {x : Int} (hx : 0 ≤ x ∧ x < 4294967296) (hk : x ∈ keys L) (hl : left (ky x) = true) : Col L (fun z => left z && !z.sameKey (ky x)) (xs ++ [x]) := by
  have hnew : x ∉ xs := fun h1 => by have := ((h.mem x).1 h1).2; rw [hl] at this; cases this
  refine ⟨List.nodup_append.2 ⟨h.nd, by simp, fun a ha c hc => by simp at hc; subst hc; exact fun e => hnew (e ▸ ha)⟩, fun y => ?_, fun y hy => ?_⟩
  · by_cases hy : y = x
    · subst hy
      simp [hk, Lit.sameKey]
    · rw [List.mem_append, h.mem y]
      simp [hy, Lit.sameKey]
  · rcases List.mem_append.1 hy with h1 | h1
    · exact h.wf y h1
    · obtain rfl : y = x := by simpa using h1
      exact hx
theorem Col.perm {left : Lit → Bool} {xs : List Int} (h : Col L left xs) (hn : (keys L).Nodup) (hl : ∀ kl, left kl = false) : xs.Perm (keys L) :=
  (List.perm_ext_iff_of_nodup h.nd hn).2 fun x => by rw [h.mem x, hl]; simp

theorem keyOf32_inv {key : Value} {kl : Lit} (h : keyOf Try.prog 22 key = some kl) : ∃ x : Int, key = .int .u32 x ∧ kl = ky x ∧ (0 ≤ x ∧ x < 4294967296) := by
  obtain ⟨x, rfl, rfl, hw⟩ := Maps.keyOf_int_inv Try.underlying22 h
  refine ⟨x, rfl, rfl, ?_⟩
  simp [Lit.wf, IntKind.min, IntKind.max, IntKind.bits, IntKind.signed] at hw
  omega

def encW (x : Int × Int) : Value := .agg #[.int .i64 x.1, .int .i64 x.2]
theorem row_ne {base : Nat} {v : Value} {m : Nat} {xs : List Value} (h : w.ownsRow base 22 1 v m xs) {c : Nat} (hc : c < base) : some c ≠ v.ownBlock := by
  obtain ⟨_, h | h⟩ := h
  · rw [h.1]; simp [Value.ownBlock]
  · obtain ⟨g, cap, cur, rfl, hg, _⟩ := h
    simp [Value.ownBlock]
    omega

theorem row_ext {base e size m : Nat} {v : Value} {xs : List Value} {S : Nat → Prop} (h : w.ownsRow base e size v m xs) (hx : Ext S w w') (hs : ∀ k, base ≤ k → k < w.heap.size → ¬ S k) : w'.ownsRow base e size v m xs := by
  obtain ⟨h0, h | ⟨g, cap, cur, rfl, hg, hb, r⟩⟩ := h
  · exact ⟨h0, .inl h⟩
  · have hlt := lt_of_block hb
    exact ⟨h0, .inr ⟨g, cap, cur, rfl, hg, (hx.block g hlt (hs g hg hlt)).trans hb, r⟩⟩
theorem row_lower {base base' e size m : Nat} {v : Value} {xs : List Value} (h : w.ownsRow base e size v m xs) (hb : base' ≤ base) : w.ownsRow base' e size v m xs := by
  obtain ⟨h0, h | ⟨g, cap, cur, rfl, hg, r⟩⟩ := h
  · exact ⟨h0, .inl h⟩
  · exact ⟨h0, .inr ⟨g, cap, cur, rfl, Nat.le_trans hb hg, r⟩⟩
theorem row_own {base e size m : Nat} {v : Value} {xs : List Value} (h : w.ownsRow base e size v m xs) : ∀ j, v.ownBlock = some j → base ≤ j ∧ j < w.heap.size := by
  intro j hj
  obtain ⟨h0, ⟨rfl, _⟩ | ⟨g, cap, cur, rfl, hg, hb, r⟩⟩ := h
  · cases hj
  · simp only [Value.ownBlock, Option.some.injEq] at hj
    subst hj
    exact ⟨hg, lt_of_block hb⟩
theorem Try.info22 : (Try.prog.info? 22).map (fun i => (i.zero, i.size, i.bytes)) = some (some (.int .u32 0), 1, 4) := by kernel_rfl

set_option maxHeartbeats 3200000 in
theorem list_walk (h : Tab w p b n room turns last L) (hn : L.length ≤ 100000)
    (hsort : ∀ (W : World) (v : Value) (xs : List Int) (B : Nat), Ext (fun _ => False) w W → W.ownsRow (B + 2) 22 1 v xs.length (xs.map (Value.int .u32)) → B < W.heap.size → w.heap.size ≤ B → xs.Perm (keys L) → (∀ x ∈ xs, 0 ≤ x ∧ x < 4294967296) → W.cell? ⟨B, 0, none⟩ = some (.pointer (some ⟨p, 0, none⟩)) →
      Calls Try.prog 18 #[v, .func (.func 19) #[] #[.pointer (some ⟨B, 0, none⟩)]] W fun e W' => e = .returned (.tuple #[]) ∧ Ext (fun k => B + 1 < k) W W' ∧ W'.ownsRow (B + 2) 22 1 v xs.length ((keys L).map (Value.int .u32))) :
    Calls Try.prog 9 #[.pointer (some ⟨p, 0, none⟩)] w fun e w' => ∃ v, e = .returned v ∧ w'.ownsRow w.heap.size 22 1 v L.length ((keys L).map (Value.int .u32)) ∧ Ext (fun _ => False) w w' := by
  have hX0 : Ext (fun _ => False) w (w.alloc (.cells #[.pointer (some ⟨p, 0, none⟩)] 25)) := (Ext.refl _ w).alloc _
  have hT0 := h.keep hX0 (fun h => h) (fun h => h)
  have hb0 : (w.alloc (.cells #[.pointer (some ⟨p, 0, none⟩)] 25)).cell? ⟨w.heap.size, 0, none⟩ = some (.pointer (some ⟨p, 0, none⟩)) := by rw [World.cell?_alloc_at _ _ _ _ rfl]; rfl
  have hs0 : (w.alloc (.cells #[.pointer (some ⟨p, 0, none⟩)] 25)).heap.size = w.heap.size + 1 := by simp
  go_enter Try.func9, Try.ntmps9
  go_wp2_with fail
  go_at_call 15
  refine (none_some hT0).mono ?_
  rintro e w1 ⟨rfl, hw⟩
  have hw := hw.symm
  subst hw
  generalize w.alloc (.cells #[.pointer (some ⟨p, 0, none⟩)] 25) = W0 at *
  have h3 := hT0.c3
  obtain ⟨D, hown, hM⟩ := hT0.map
  have hblt := hT0.blt
  have hb2 : b < w.heap.size + 2 := by omega
  have hW2 : W0.heap.size ≤ w.heap.size + 2 := by omega
  clear hblt
  go_wp2_with (at_range; refine wpList_range_own _ rfl _ 49 rfl 22 55 key22 Try.underlying49 waitElem b n D rfl hown ?_; intro w1 hrg1 hg1 hs1)
  go_frame
  have hE1 : Ext (fun _ => False) W0 w1 := (Ext.refl _ W0).grown hg1 (fun j e => by cases e)
  clear hg1
  rw [hs0] at hrg1 hs1 ⊢
  go_loopw [2] (fun v wr => ∃ (xs : List Int) (left : Lit → Bool) (cnt : Nat), wr.ranges Try.prog 22 waitElem b (w.heap.size + 1) n D left cnt ∧ Col L left xs ∧ wr.ownsRow (w.heap.size + 2) 22 1 v xs.length (xs.map (Value.int .u32)) ∧ Ext (fun _ => False) W0 wr ∧ w.heap.size + 2 ≤ wr.heap.size) (fun _ wr => wr.rangeLeft b (w.heap.size + 1))
  case atStart => exact ⟨[], _, _, hrg1, Col.start hM, World.ownsRow_nil _ _ _ _, hE1, by omega⟩
  case round =>
    obtain ⟨xs, left, cnt, hrg, hC, hrow, hE, hsz⟩ := hrel
    go_wp2_with (at_next; refine wpList_next_ranges _ rfl _ rfl 22 key22 waitElem (Value.int .u32) encW (fun key kl hk => by obtain ⟨x, rfl, _⟩ := keyOf32_inv hk; exact ⟨x, rfl⟩) (fun v y hv => by obtain ⟨k, t, rfl, _⟩ := waitElem_inv hv; exact ⟨(k, t), rfl⟩) b (w.heap.size + 1) n D left cnt rfl hrg ?_ ?_)
    · intro hc0 hl0
      have hp := hC.perm hM.nd hl0
      have hlen : xs.length = L.length := by rw [hp.length_eq]; simp [keys]
      have hbx : wr.cell? ⟨w.heap.size, 0, none⟩ = some (.pointer (some ⟨p, 0, none⟩)) := (hE.cell (p := ⟨w.heap.size, 0, none⟩) (by show w.heap.size < W0.heap.size; omega) (fun h => h)).trans hb0
      go_wp2_with fail
      go_at_call 18
      refine (hsort wr _ xs w.heap.size (hX0.trans hE) hrow (by omega) (Nat.le_refl _) hp hC.wf hbx).mono ?_
      rintro e W2 ⟨rfl, hE2, hrow2⟩
      go_wp2
      go_ret
      rw [hlen] at hrow2
      exact ⟨_, rfl, row_lower hrow2 (by omega), (hX0.trans hE).trans2 hE2 (fun i h1 h2 => by omega)⟩
    · intro x c1 c2 kl yd yp w2 cnt2 hkey hlk hv hat hrg2 hlt2 hg2 hs2 hen
      obtain ⟨x', ex, rfl, hx⟩ := keyOf32_inv hkey
      cases ex
      have hxk : x ∈ keys L := by
        have := has_true_of_atKey hat
        rw [hM.hs] at this
        simpa using this
      have hC2 := hC.step hx hxk hlk
      simp only [encW] at hen ⊢
      have hle : xs.length + 1 ≤ 100001 := by
        have := nodup_le hC.nd (fun y hy => ((hC.mem y).1 hy).1)
        simp only [keys, List.length_map] at this
        omega
      have hE2 : Ext (fun k => k = w.heap.size + 1) wr w2 := (Ext.refl _ wr).grown hg2 (fun j e => .inl (by injection e with e; exact e.symm))
      have hrow2 := row_ext hrow hE2 (fun k h1 h2 h3 => by omega)
      have hrow3 := row_ext hrow2 ((Ext.refl (fun _ => False) w2).alloc (.cells #[.int .u32 x] 22)) (fun _ _ _ h => h)
      have hrg3 := hrg2.alloc (.cells #[.int .u32 x] 22)
      have hE3 : Ext (fun _ => False) W0 (w2.alloc (.cells #[.int .u32 x] 22)) := (hE.grown hg2 (fun j e => .inr (by injection e with e; omega))).alloc _
      have hc3 : (w2.alloc (.cells #[.int .u32 x] 22)).cell? ⟨w2.heap.size, 0, none⟩ = some (.int .u32 x) := by rw [World.cell?_alloc_at _ _ _ _ rfl]; rfl
      have hsz3 : w.heap.size + 2 ≤ (w2.alloc (.cells #[.int .u32 x] 22)).heap.size := by simp; omega
      have hs2x : w.heap.size + 2 ≤ w2.heap.size := by omega
      clear hrow2 hs1 hs2 hsort hv hat hrg1 hE1 hE2
      clear hs0
      obtain ⟨i0, hi, hz0, hz1, hz2⟩ := info_parts Try.info22
      go_wp2_with (at_builtin; refine wpList_append_own_at _ rfl _ _ 34 rfl (w.heap.size + 2) 22 i0 (.int .u32 0) 1 4 Try.underlying34 hi hz0 hz1 hz2 rfl (by decide) _ xs.length (xs.map (Value.int .u32)) rfl hrow3 ⟨w2.heap.size, 0, none⟩ 1 1 [.int .u32 x] rfl rfl (fun j u h => by
        cases j with
        | zero => simp at h; subst h; exact hc3
        | succ j => simp at h) (fun u h => by simp at h; subst h; rfl) (by unfold maxLen; omega) (by omega) hsz3 ?_; intro v4 w4 hrow4 hg4 hnil4 hloc4; clear hnil4 hloc4)
      have hrg4 := hrg3.kept hg4 (row_ne hrow3 hb2) (row_ne hrow3 (by omega))
      have hE4 : Ext (fun _ => False) W0 w4 := hE3.grown hg4 (fun j e => by
        have := (row_own hrow3 j e).1
        right; omega)
      have hsz4 : w.heap.size + 2 ≤ w4.heap.size := Nat.le_trans hsz3 hg4.size
      go_roundw
      · refine ⟨xs ++ [x], _, cnt2, hrg4, hC2, ?_, hE4, hsz4⟩
        simpa using hrow4
      · rw [hrg4.left_eq, hrg.left_eq]; exact hlt2
end
end Go.Proofs.Ythminmcdkcnkpaa
