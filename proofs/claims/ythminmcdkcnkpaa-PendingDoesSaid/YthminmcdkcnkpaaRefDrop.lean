/- The document's Drop. -/
import Derived.Test.YthminmcdkcnkpaaRefNext
import Derived.Test.YthminmcdkcnkpaaList
namespace Go.Proofs.Ythminmcdkcnkpaa
open Go.RowKit Go.Maps

def wv (e : En) : List Value := [.int .u32 e.1, .int .i64 e.2.1]
def flat (L : List En) : List Value := L.flatMap wv
theorem flat_snoc (L : List En) (e : En) : flat (L ++ [e]) = flat L ++ wv e := by simp [flat]
theorem flat_len : ∀ (L : List En), (flat L).length = L.length * 2
  | [] => rfl
  | e :: L => by
    have := flat_len L
    simp only [flat, List.flatMap_cons, List.length_append, List.length_cons] at this ⊢
    simp only [wv, List.length_cons, List.length_nil] at this ⊢
    omega
theorem flat_get : ∀ {L : List En} {j : Nat} {e : En}, L[j]? = some e → (flat L)[j * 2]? = some (.int .u32 e.1) ∧ (flat L)[j * 2 + 1]? = some (.int .i64 e.2.1)
  | [], _, _, h => by simp at h
  | a :: L, 0, e, h => by
    simp at h
    subst h
    exact ⟨rfl, rfl⟩
  | a :: L, j + 1, e, h => by
    have := flat_get (L := L) (j := j) (e := e) (by simpa using h)
    have e1 : (j + 1) * 2 = j * 2 + 1 + 1 := by omega
    have e2 : flat (a :: L) = .int .u32 a.1 :: .int .i64 a.2.1 :: flat L := rfl
    rw [e1, e2]
    simpa using this

section
variable {w w' : World} {Av Av' : Nat → Prop} {v : Value} {L : List En}

theorem rl_of_row {base : Nat} (h : w.ownsRow base 47 2 v L.length (flat L)) (ha : ∀ k, Av k → k < base) : Rl w Av v L := by
  obtain ⟨h0, ⟨rfl, h1⟩ | ⟨g, cap, cur, rfl, hg, hb, hc, hm, hs, ht⟩⟩ := h
  · have : L = [] := List.length_eq_zero_iff.1 h1
    subst this
    exact Rl.nil _ _ _
  · refine ⟨_, cap, rfl, hc, fun hl => ⟨g, 0, rfl, fun a => by have := ha g a; omega, lt_of_block hb, fun j e he => ?_⟩⟩
    have hjl := (List.getElem?_eq_some_iff.1 he).1
    obtain ⟨f1, f2⟩ := flat_get he
    rw [← ht] at f1 f2
    rw [List.getElem?_take_of_lt (by omega)] at f1 f2
    simp only [World.cell?, hb, Nat.zero_add]
    exact ⟨by simpa using f1, by simpa using f2⟩

theorem Try.info47 : (Try.prog.info? 47).map (fun i => (i.zero, i.size, i.bytes)) = some (some (.agg #[.int .u32 0, .int .i64 0]), 2, 16) := by kernel_rfl

theorem strike_take {k : Nat} {e : En} {x : Int} (he : L[k]? = some e) : strike (L.take (k + 1)) x = if e.1 = x then strike (L.take k) x else strike (L.take k) x ++ [e] := by
  obtain ⟨hk, rfl⟩ := List.getElem?_eq_some_iff.1 he
  rw [List.take_succ_eq_append_getElem hk]
  simp only [strike, List.filter_append]
  by_cases hx : L[k].1 = x <;> simp [hx]

theorem row_sl {base e size m : Nat} {xs : List Value} (h : w.ownsRow base e size v m xs) : ∃ q c, v = .slice q m c := by
  obtain ⟨_, ⟨rfl, rfl⟩ | ⟨g, cap, cur, rfl, _⟩⟩ := h
  · exact ⟨_, _, rfl⟩
  · exact ⟨_, _, rfl⟩
theorem row_own2 {base e size m : Nat} {xs : List Value} (h : w.ownsRow base e size v m xs) : ∀ j, v.ownBlock = some j → base ≤ j := fun j hj => (row_own h j hj).1
theorem Two.keep {W W' : World} {room last r2 l2 : Int} {v2 : Value} (h : Two w W room last v r2 l2 v2) (hx : Ext (fun k => w.heap.size + 2 ≤ k) W W') : Two w W' room last v r2 l2 v2 :=
  ⟨h.arg.keep hx (by omega), h.res.keep hx (by omega), h.low.trans (hx.below h.low.size (fun k h1 h2 => by omega))⟩

set_option maxRecDepth 20000 in
set_option maxHeartbeats 3200000 in
theorem refDrop_ok (h : Rl w Av v L) (room last x : Int) (hl : L.length ≤ 100000) (hnd : (keys L).Nodup) : Calls Try.prog 23 #[.agg #[.int .i64 room, .int .u32 last, v], .int .u32 x] w fun e w' => ∃ v', e = .returned (.tuple #[.agg #[.int .i64 room, .int .u32 last, v'], .bool (decide (x ∈ keys L))]) ∧ Rl w' (fun k => k < w.heap.size) v' (strike L x) ∧ Below w.heap.size w w' := by
  obtain ⟨q, cap, rfl, hcp, h⟩ := h
  have hT := two_start w room last (.slice q L.length cap)
  have hsz : ((w.alloc (.cells #[.int .i64 room, .int .u32 last, .slice q L.length cap] 39)).alloc (.cells #[.int .i64 0, .int .u32 0, .slice none 0 0] 39)).heap.size = w.heap.size + 2 := by simp
  go_enter Try.func23, Try.ntmps23
  go_wp2_with fail
  generalize (w.alloc (.cells #[.int .i64 room, .int .u32 last, .slice q L.length cap] 39)).alloc (.cells #[.int .i64 0, .int .u32 0, .slice none 0 0] 39) = W at hT hsz ⊢
  go_loopw [6, 7] (fun u i wr => ∃ k : Nat, k ≤ L.length ∧ i = .int .i64 k ∧ Two w wr room last (.slice q L.length cap) 0 0 (.slice none 0 0) ∧ wr.ownsRow (w.heap.size + 2) 47 2 u (strike (L.take k) x).length (flat (strike (L.take k) x)) ∧ w.heap.size + 2 ≤ wr.heap.size) (fun _ i _ => (L.length - intOf i).toNat)
  case atStart => exact ⟨0, by omega, rfl, hT, World.ownsRow_nil _ _ _ _, by omega⟩
  case round =>
    clear hT hsz
    obtain ⟨k, hk, rfl, hT, hrow, hsz⟩ := hrel
    have c2 := hT.arg.c2
    by_cases hkn : k < L.length
    · obtain ⟨b, off, rfl, _, g2, g⟩ := h (by intro e; simp [e] at hkn)
      obtain ⟨e, he⟩ : ∃ e, L[k]? = some e := ⟨_, List.getElem?_eq_getElem hkn⟩
      have c3 := (hT.low.cell (p := ⟨b, off + k * 2, none⟩) g2).trans (g k e he).1
      have c4 := (hT.low.cell (p := ⟨b, off + k * 2 + 1, none⟩) g2).trans (g k e he).2
      have hka : (k : Int) < (L.length : Int) := by omega
      have hst := strike_take (x := x) he
      clear g h
      by_cases hx : e.1 = x
      · rw [hx] at c3
        rw [if_pos hx] at hst
        go_wp2
        go_roundw
        · exact ⟨k + 1, by omega, by go_num, hT, by rw [hst]; exact hrow, hsz⟩
        · simp [intOf]; omega
      · rw [if_neg hx] at hst
        have hlk : (strike (L.take k) x).length ≤ k := by
          have : (strike (L.take k) x).length ≤ (L.take k).length := List.length_filter_le _ _
          simp at this
          omega
        obtain ⟨i0, hi, hz0, hz1, hz2⟩ := info_parts Try.info47
        have hrow2 := row_ext hrow ((Ext.refl (fun _ => False) wr).alloc (.cells #[.int .u32 e.1, .int .i64 e.2.1] 47)) (fun _ _ _ h => h)
        have hT2 := hT.below ((Below.refl _ wr).alloc (Nat.le_refl _) (.cells #[.int .u32 e.1, .int .i64 e.2.1] 47))
        have hsz2 : w.heap.size + 2 ≤ (wr.alloc (.cells #[.int .u32 e.1, .int .i64 e.2.1] 47)).heap.size := by simp; omega
        have d0 : (wr.alloc (.cells #[.int .u32 e.1, .int .i64 e.2.1] 47)).cell? ⟨wr.heap.size, 0, none⟩ = some (.int .u32 e.1) := by rw [World.cell?_alloc_at _ _ _ _ rfl]; rfl
        have d1 : (wr.alloc (.cells #[.int .u32 e.1, .int .i64 e.2.1] 47)).cell? ⟨wr.heap.size, 1, none⟩ = some (.int .i64 e.2.1) := by rw [World.cell?_alloc_at _ _ _ _ rfl]; rfl
        go_wp2_with (at_builtin; refine wpList_append_own_at _ rfl _ _ 37 rfl (w.heap.size + 2) 47 i0 (.agg #[.int .u32 0, .int .i64 0]) 2 16 Try.underlying37 hi hz0 hz1 hz2 rfl (by decide) _ (strike (L.take k) x).length (flat (strike (L.take k) x)) rfl hrow2 ⟨wr.heap.size, 0, none⟩ 1 1 (wv e) rfl rfl (fun j u h => by
          match j, h with
          | 0, h => simp [wv] at h; subst h; exact d0
          | 1, h => simp [wv] at h; subst h; exact d1
          | j + 2, h => simp [wv] at h) (fun u h => by simp [wv] at h; rcases h with rfl | rfl <;> rfl) (by unfold maxLen; omega) (by omega) hsz2 ?_; intro v4 w4 hrow4 hg4 hnil4 hloc4; clear hnil4 hloc4)
        replace hg4 : (wr.alloc (.cells #[.int .u32 e.1, .int .i64 e.2.1] 47)).grownBy w4 u6.ownBlock := hg4
        have hE4 : Ext (fun k => w.heap.size + 2 ≤ k) (wr.alloc (.cells #[.int .u32 e.1, .int .i64 e.2.1] 47)) w4 := (Ext.refl _ _).grown hg4 (fun j e => .inl (row_own2 hrow2 j e))
        go_roundw
        · exact ⟨k + 1, by omega, by go_num, hT2.keep hE4, by rw [hst, flat_snoc, List.length_append]; exact hrow4, Nat.le_trans hsz2 hE4.size⟩
        · simp [intOf]; omega
    · have hkl : k = L.length := by omega
      subst hkl
      rw [List.take_length] at hrow
      obtain ⟨q2, c2', rfl⟩ := row_sl hrow
      have c0 := hT.arg.c0
      have c1 := hT.arg.c1
      have f2 := hT.arg.fz 2
      have d0 := hT.res.c0
      have d1 := hT.res.c1
      have d2 := hT.res.c2
      have g0 := hT.res.fz 0
      have g1 := hT.res.fz 1
      have g2 := hT.res.fz 2
      have hE : ∀ a b c d, Ext (fun k => k < w.heap.size + 2) wr ((((wr.setCell ⟨w.heap.size, 2, none⟩ a).setCell ⟨w.heap.size + 1, 0, none⟩ b).setCell ⟨w.heap.size + 1, 1, none⟩ c).setCell ⟨w.heap.size + 1, 2, none⟩ d) := fun a b c d =>
        ((((Ext.refl _ wr).setCell (p := ⟨w.heap.size, 2, none⟩) (.inl (by simp)) a).setCell (p := ⟨w.heap.size + 1, 0, none⟩) (.inl (by simp)) b).setCell (p := ⟨w.heap.size + 1, 1, none⟩) (.inl (by simp)) c).setCell (p := ⟨w.heap.size + 1, 2, none⟩) (.inl (by simp)) d
      have hB : ∀ a b c d, Below w.heap.size w ((((wr.setCell ⟨w.heap.size, 2, none⟩ a).setCell ⟨w.heap.size + 1, 0, none⟩ b).setCell ⟨w.heap.size + 1, 1, none⟩ c).setCell ⟨w.heap.size + 1, 2, none⟩ d) := fun a b c d =>
        (((hT.low.setCell (p := ⟨w.heap.size, 2, none⟩) (Nat.le_refl _) a).setCell (p := ⟨w.heap.size + 1, 0, none⟩) (by simp) b).setCell (p := ⟨w.heap.size + 1, 1, none⟩) (by simp) c).setCell (p := ⟨w.heap.size + 1, 2, none⟩) (by simp) d
      have hfin : ∀ a b c d, Rl ((((wr.setCell ⟨w.heap.size, 2, none⟩ a).setCell ⟨w.heap.size + 1, 0, none⟩ b).setCell ⟨w.heap.size + 1, 1, none⟩ c).setCell ⟨w.heap.size + 1, 2, none⟩ d) (fun k => k < w.heap.size) (.slice q2 (strike L x).length c2') (strike L x) := fun a b c d =>
        rl_of_row (row_ext hrow (hE a b c d) (fun k h1 h2 h3 => by omega)) (fun k hk => by omega)
      have hsl : ((strike L x).length : Int) ≤ 100000 := by
        have : (strike L x).length ≤ L.length := List.length_filter_le _ _
        omega
      clear hT hrow
      by_cases hm : x ∈ keys L
      · have hlt : ((strike L x).length : Int) < (L.length : Int) := by have := len_strike hnd hm; omega
        generalize (strike L x).length = m at *
        go_wp2
        refine bodyPost_ret (v := .tuple #[.agg #[.int .i64 room, .int .u32 last, .slice q2 m c2'], .bool true]) (by rw [results_cell_tmp1 rfl]; go_simp) rfl ?_
        exact ⟨_, by simp [hm], hfin _ _ _ _, hB _ _ _ _⟩
      · rw [strike_none hm] at hfin ⊢
        go_wp2
        refine bodyPost_ret (v := .tuple #[.agg #[.int .i64 room, .int .u32 last, .slice q2 L.length c2'], .bool false]) (by rw [results_cell_tmp1 rfl]; go_simp) rfl ?_
        rw [strike_none hm]
        exact ⟨.slice q2 L.length c2', by simp [hm], hfin _ _ _ _, hB _ _ _ _⟩
end
end Go.Proofs.Ythminmcdkcnkpaa
