/- pieces, and told. -/
import Derived.Test.YtlacngdbembkkaaApart
namespace Go.Proofs.Ytlacngdbembkkaa
open Go.RowKit Go.Shelf

/-- A stream in pieces. -/
def piecesL : List Int → List Int → List (List Int)
  | s, [] => [s]
  | s, c :: cs => s.take (min (c % 40).toNat s.length) :: piecesL (s.drop (min (c % 40).toNat s.length)) cs
theorem pieces_flat : ∀ (cs s : List Int), (piecesL s cs).flatten = s
  | [], s => by simp [piecesL]
  | c :: cs, s => by simp only [piecesL, List.flatten_cons]; rw [pieces_flat cs]; exact List.take_append_drop _ _
theorem pieces_len : ∀ (cs s : List Int), (piecesL s cs).length = cs.length + 1
  | [], s => rfl
  | c :: cs, s => by simp only [piecesL, List.length_cons]; rw [pieces_len cs]
theorem pieces_mem : ∀ (cs s : List Int) (x : List Int), x ∈ piecesL s cs → (∀ y ∈ x, y ∈ s) ∧ x.length ≤ s.length
  | [], s, x, h => by simp [piecesL] at h; subst h; exact ⟨fun _ h => h, Nat.le_refl _⟩
  | c :: cs, s, x, h => by
    simp only [piecesL, List.mem_cons] at h
    rcases h with rfl | h
    · exact ⟨fun y hy => List.mem_of_mem_take hy, by rw [List.length_take]; omega⟩
    · obtain ⟨h1, h2⟩ := pieces_mem cs _ x h
      exact ⟨fun y hy => List.mem_of_mem_drop (h1 y hy), by rw [List.length_drop] at h2; omega⟩

/-- What is told of pieces. -/
def toldL : List Int → Bool → List (List Int) → List (List Int) × List Int × Bool
  | h, f, [] => ([], h, f)
  | h, f, c :: cs => ((feedL h f c).1 ++ (toldL (feedL h f c).2.1 (feedL h f c).2.2 cs).1, (toldL (feedL h f c).2.1 (feedL h f c).2.2 cs).2)

theorem split_append_bad (n : Nat) : ∀ (a c : List Int), a.length ≤ n → (splitL a).2.2 = true → (splitL (a ++ c)).1 = (splitL a).1 ∧ (splitL (a ++ c)).2.2 = true := by
  induction n with
  | zero => intro a c ha h; rw [split_short (b := a) (by omega)] at h; cases h
  | succ n ih =>
    intro a c ha h
    by_cases h4 : a.length < 4
    · rw [split_short h4] at h; cases h
    · have ht := told_append c (a := a) (by omega)
      by_cases h8 : told a < 8
      · rw [split_bad h4 h8, split_bad (b := a ++ c) (by simp; omega) (by rw [ht]; exact h8)]
        exact ⟨rfl, rfl⟩
      · by_cases hl : a.length < told a
        · rw [split_wait h4 h8 hl] at h; cases h
        · rw [split_cut h4 h8 hl] at h ⊢
          have hd : (a ++ c).drop (told a) = a.drop (told a) ++ c := List.drop_append_of_le_length (by omega)
          have hk : (a ++ c).take (told a) = a.take (told a) := List.take_append_of_le_length (by omega)
          rw [split_cut (b := a ++ c) (by simp; omega) (by rw [ht]; exact h8) (by rw [ht]; simp; omega), ht, hd, hk]
          obtain ⟨h1, h2⟩ := ih (a.drop (told a)) c (by simp; omega) h
          exact ⟨by simp only; rw [h1], h2⟩

theorem told_failed : ∀ (cs : List (List Int)) (h : List Int), toldL h true cs = ([], h, true)
  | [], h => rfl
  | c :: cs, h => by
    have := told_failed cs h
    simp only [toldL]
    rw [show feedL h true c = ([], h, true) from rfl]
    simp only
    rw [this]; rfl
/-- All pieces come to what the stream comes to. -/
theorem told_all : ∀ (cs : List (List Int)) (h : List Int), splitL h = ([], h, false) →
    toldL h false cs = ((splitL (h ++ cs.flatten)).1, heldOf (splitL (h ++ cs.flatten)).2.2 (splitL (h ++ cs.flatten)).2.1, (splitL (h ++ cs.flatten)).2.2)
  | [], h, hh => by simp only [toldL, List.flatten_nil, List.append_nil]; rw [hh]; rfl
  | c :: cs, h, hh => by
    simp only [toldL, List.flatten_cons]
    rw [show h ++ (c ++ cs.flatten) = (h ++ c) ++ cs.flatten by simp]
    simp only [feedL]
    cases hb : (splitL (h ++ c)).2.2 with
    | true =>
      obtain ⟨h1, h2⟩ := split_append_bad (h ++ c).length (h ++ c) cs.flatten (Nat.le_refl _) hb
      rw [told_failed, h1, h2]
      simp [heldOf]
    | false =>
      have ha := split_append (h ++ c).length (h ++ c) cs.flatten (Nat.le_refl _) hb
      have hr := split_rest (h ++ c).length (h ++ c) (Nat.le_refl _)
      rw [hb] at hr
      have ih := told_all cs (splitL (h ++ c)).2.1 hr
      rw [show heldOf false (splitL (h ++ c)).2.1 = (splitL (h ++ c)).2.1 from rfl, ih, ha]
theorem told_start (cs : List (List Int)) : toldL [] false cs = ((splitL cs.flatten).1, heldOf (splitL cs.flatten).2.2 (splitL cs.flatten).2.1, (splitL cs.flatten).2.2) := by
  have := told_all cs [] (split_short (by decide))
  simpa using this

theorem toldL_snoc : ∀ (cs : List (List Int)) (h : List Int) (f : Bool) (c : List Int), toldL h f (cs ++ [c]) =
    ((toldL h f cs).1 ++ (feedL (toldL h f cs).2.1 (toldL h f cs).2.2 c).1, (feedL (toldL h f cs).2.1 (toldL h f cs).2.2 c).2)
  | [], h, f, c => by simp [toldL]
  | d :: cs, h, f, c => by
    simp only [List.cons_append, toldL]
    rw [toldL_snoc cs]
    simp
theorem toldL_held : ∀ (cs : List (List Int)) (h : List Int) (f : Bool), (toldL h f cs).2.1.length ≤ h.length + cs.flatten.length
  | [], h, f => by simp [toldL]
  | c :: cs, h, f => by
    have h1 := toldL_held cs (feedL h f c).2.1 (feedL h f c).2.2
    have h2 := feed_held h c f
    simp only [toldL, List.flatten_cons, List.length_append]
    omega
theorem toldL_byt : ∀ (cs : List (List Int)) (h : List Int) (f : Bool), Byt h → (∀ c ∈ cs, Byt c) → Byt (toldL h f cs).2.1
  | [], h, f, hh, _ => hh
  | c :: cs, h, f, hh, hc => toldL_byt cs _ _ (feed_byt hh (hc c (by simp))) (fun x hx => hc x (by simp [hx]))
theorem toldL_count : ∀ (cs : List (List Int)) (h : List Int) (f : Bool), (toldL h f cs).1.length ≤ h.length + cs.flatten.length + (cs.length * (h.length + cs.flatten.length))
  | [], h, f => by simp [toldL]
  | c :: cs, h, f => by
    have h1 := toldL_count cs (feedL h f c).2.1 (feedL h f c).2.2
    have h2 := feed_held h c f
    have h3 := (feed_bound h c f).1
    simp only [toldL, List.flatten_cons, List.length_append, List.length_cons]
    have h4 : cs.length * ((feedL h f c).2.1.length + cs.flatten.length) ≤ cs.length * (h.length + (c.length + cs.flatten.length)) := Nat.mul_le_mul_left _ (by omega)
    rw [Nat.add_mul, Nat.one_mul]
    omega

/-- Pieces that were cut so far. -/
def Pr (w W : World) (Av : Nat → Prop) (ov : Value) (pre : List (List Int)) : Prop := ∃ us, W.ownsRow w.heap.size 27 1 ov pre.length us ∧ us.length = pre.length ∧ ∀ (j : Nat) (x : List Int), pre[j]? = some x → ∃ u, us[j]? = some u ∧ Bs w Av u x
theorem Pr.fs {w W : World} {Av : Nat → Prop} {ov : Value} {pre : List (List Int)} (h : Pr w W Av ov pre) (hB : Below w.heap.size w W) : Fs W (fun k => Av k ∧ k < w.heap.size) ov pre := by
  obtain ⟨us, hrow, hlen, hu⟩ := h
  rcases hrow.2 with ⟨rfl, h0⟩ | ⟨g, cap, cur, rfl, hb, hg, hc, _⟩
  · exact ⟨none, 0, by rw [h0], by omega, fun hl => absurd (List.length_eq_zero_iff.1 h0) hl⟩
  · refine ⟨some ⟨g, 0, none⟩, cap, rfl, hc, fun _ => ⟨g, 0, rfl, fun hh => by have := hh.2; omega, lt_of_block hg, fun j x hj => ?_⟩⟩
    obtain ⟨u, hu1, hu2⟩ := hu j x hj
    exact ⟨u, by rw [Nat.zero_add]; exact ownsRow_cell hrow j u hu1, (hu2.belowA hB).mono fun k _ hk => hk.1⟩
theorem Pr.push {w W2 : World} {Av : Nat → Prop} {ov' u : Value} {pre : List (List Int)} {x : List Int} {us : List Value} (hlen : us.length = pre.length) (hu : ∀ (j : Nat) (x : List Int), pre[j]? = some x → ∃ u, us[j]? = some u ∧ Bs w Av u x) (hx : Bs w Av u x)
    (hown : W2.ownsRow w.heap.size 27 1 ov' (pre.length + 1) (us ++ [u])) : Pr w W2 Av ov' (pre ++ [x]) := by
  refine ⟨us ++ [u], by rw [show (pre ++ [x]).length = pre.length + 1 by simp]; exact hown, by simp [hlen], fun j y hj => ?_⟩
  by_cases hjl : j < pre.length
  · rw [List.getElem?_append_left hjl] at hj
    obtain ⟨u', h1, h2⟩ := hu j y hj
    exact ⟨u', by rw [List.getElem?_append_left (by rw [hlen]; exact hjl)]; exact h1, h2⟩
  · have hjl2 : j < (pre ++ [x]).length := (List.getElem?_eq_some_iff.1 hj).1
    simp at hjl2
    obtain rfl : j = pre.length := by omega
    simp at hj
    subst hj
    exact ⟨u, by rw [← hlen]; simp, hx⟩

theorem Bs.front2 {w : World} {Av : Nat → Prop} {q : Option Addr} {n cap : Nat} {l : List Int} (h : Bs w Av (.slice q n cap) l) (k : Nat) (hk : k ≤ l.length) : Bs w Av (.slice q k cap) (l.take k) := by
  obtain ⟨p, cap', e, hcp, hb⟩ := h
  cases e
  refine ⟨q, cap, by rw [List.length_take, Nat.min_eq_left hk], by rw [List.length_take]; omega, fun hne => ?_⟩
  obtain ⟨b, off, rfl, h1, h2, h3⟩ := hb (by rintro rfl; simp at hne)
  refine ⟨b, off, rfl, h1, h2, fun j x hj => ?_⟩
  rw [List.getElem?_take] at hj
  split at hj
  · exact h3 j x hj
  · cases hj
theorem Bs.back {w : World} {Av : Nat → Prop} {q : Option Addr} {cap : Nat} {l : List Int} (h : Bs w Av (.slice q l.length cap) l) (k : Nat) (hk : k ≤ l.length) : Bs w Av (.slice (if cap = k then q else q.map fun x => x.add k) (l.length - k) (cap - k)) (l.drop k) := by
  obtain ⟨p, cap', e, hcp, hb⟩ := h
  cases e
  refine ⟨_, cap - k, by rw [List.length_drop], by rw [List.length_drop]; omega, fun hne => ?_⟩
  have hlt : k < l.length := Nat.lt_of_not_le fun hle => hne (List.drop_eq_nil_iff.2 hle)
  obtain ⟨b, off, rfl, h1, h2, h3⟩ := hb (by rintro rfl; simp at hlt)
  refine ⟨b, off + k, by rw [if_neg (by omega)]; simp [Go.WideShapes.add_plain], h1, h2, fun j x hj => ?_⟩
  rw [List.getElem?_drop] at hj
  have := h3 (k + j) x hj
  rwa [show off + (k + j) = off + k + j by omega] at this

set_option maxHeartbeats 3200000 in
theorem pieces_ok {w : World} {Av Av2 : Nat → Prop} {sv cv : Value} {s cs : List Int} (hs : Bs w Av sv s) (hc : Bs w Av2 cv cs) (hcb : Byt cs) (hsl : s.length ≤ 1000000) (hcl : cs.length ≤ 1000) :
    Calls Try.prog 20 #[sv, cv] w fun e w' => ∃ ov, e = .returned ov ∧ Fs w' (fun k => Av k ∧ k < w.heap.size) ov (piecesL s cs) ∧ Below w.heap.size w w' := by
  have hc0 := hc
  have hs0 := hs
  obtain ⟨qs, c1, rfl⟩ := hs.form
  obtain ⟨qc, c2, rfl, hcc, hcx⟩ := hc
  obtain ⟨i0, hi, hz0, hz1, hz2⟩ := info_parts Try.info27
  go_enter Try.func20, Try.ntmps20
  go_wp2_with fail
  go_loopw [0, 5, 6] (fun a o i wr => ∃ (k : Nat) (pre : List (List Int)) (rest : List Int), k ≤ cs.length ∧ i = .int .i64 k ∧ Bs w Av a rest ∧ rest.length ≤ s.length ∧ Below w.heap.size w wr ∧ Pr w wr Av o pre ∧ pre.length = k ∧ piecesL s cs = pre ++ piecesL rest (cs.drop k))
    (fun _ _ i _ => (cs.length - intOf i).toNat)
  case atStart => exact ⟨0, [], s, Nat.zero_le _, rfl, hs0, Nat.le_refl _, Below.refl _ _, ⟨[], World.ownsRow_nil _ _ _ _, rfl, fun j x hj => by simp at hj⟩, rfl, by simp⟩
  case round =>
    obtain ⟨k, pre, rest, hk, rfl, hr, hrl, hB, hPr, hpk, hsum⟩ := hrel
    obtain ⟨us, hrow, hus, hu⟩ := hPr
    have hr0 := hr
    obtain ⟨qr, cr, rfl, hcr, hrx⟩ := hr
    by_cases hkn : k < cs.length
    · obtain ⟨c, hcv⟩ : ∃ c, cs[k]? = some c := ⟨_, List.getElem?_eq_getElem hkn⟩
      obtain ⟨b, off, rfl, _, hb2, hb3⟩ := hcx (by intro e; simp [e] at hkn)
      have hcell : wr.cell? ⟨b, off + k, none⟩ = some (.int .u8 c) := (hB.cell (p := ⟨b, off + k, none⟩) hb2).trans (hb3 k c hcv)
      obtain ⟨x0, x1⟩ := hcb c (List.mem_of_getElem? hcv)
      have hka : (k : Int) < (cs.length : Int) := by omega
      have hdrop : cs.drop k = c :: cs.drop (k + 1) := by
        rw [List.drop_eq_getElem_cons hkn]
        have := (List.getElem?_eq_some_iff.1 hcv).2
        rw [this]
      rw [hdrop] at hsum
      simp only [piecesL] at hsum
      obtain ⟨m, hm⟩ : ∃ m : Nat, c % 40 = (m : Int) := ⟨(c % 40).toNat, by omega⟩
      have hmt : (c % 40).toNat = m := by omega
      rw [hmt] at hsum
      have hpl : pre.length ≤ 1000 := by omega
      clear hb3 hdrop hmt
      have fin : ∀ n : Nat, n = min m rest.length → ∀ (u a2 : Value) (o2 : Value) (w2 : World), Bs w Av u (rest.take n) → Bs w Av a2 (rest.drop n) → (wr.alloc (.cells #[u] 27)).grownBy w2 u5.ownBlock → w2.ownsRow w.heap.size 27 1 o2 (pre.length + 1) (us ++ [u]) →
          ∃ (k' : Nat) (pre' : List (List Int)) (rest' : List Int), k' ≤ cs.length ∧ Value.int .i64 ((k : Int) + 1) = .int .i64 k' ∧ Bs w Av a2 rest' ∧ rest'.length ≤ s.length ∧ Below w.heap.size w w2 ∧ Pr w w2 Av o2 pre' ∧ pre'.length = k' ∧ piecesL s cs = pre' ++ piecesL rest' (cs.drop k') := by
        intro n hn u a2 o2 w2 hu1 ha2 hg hown
        refine ⟨k + 1, pre ++ [rest.take n], rest.drop n, by omega, by simp, ha2, by rw [List.length_drop]; omega, (hB.alloc hB.size _).grown hg (by have := hB.size; simp; omega) (fun j hj => (World.ownsRow.lt hrow j hj).1), Pr.push hus hu hu1 hown, by simp; omega, ?_⟩
        rw [hsum, hn]; simp
      by_cases hle : rest.length < m
      · have hle' : (rest.length : Int) < (m : Int) := by omega
        have hrowA := hrow.alloc (.cells #[.slice qr rest.length cr] 27)
        go_wp2_with (at_builtin; refine wpList_append_own _ rfl (.tmp 23) (.tmp 27) 22 rfl w.heap.size 27 i0 (.slice none 0 0) 1 24 Try.underlying22 hi hz0 hz1 hz2 rfl (by decide) _ _ _ rfl hrowA ⟨wr.heap.size, 0, none⟩ 1 1 [.slice qr rest.length cr] rfl rfl (cell_one_new _ _ _) (by simp [Value.oneCell']) (by unfold maxLen; omega) (by omega) (by have := hB.size; simp; omega) ?_; intro o2 w2 hown2 hg2 _)
        have hA := fin rest.length (by omega) (.slice qr rest.length cr) _ o2 w2 (by rw [List.take_length]; exact hr0) (hr0.back rest.length (Nat.le_refl _)) hg2 hown2
        rw [Nat.sub_self] at hA
        refine ⟨hA, ?_⟩
        simp [intOf]; omega
      · have hle' : (m : Int) ≤ (rest.length : Int) := by omega
        have hmc : (m : Int) ≤ (cr : Int) := by omega
        have hrowA := hrow.alloc (.cells #[.slice qr m cr] 27)
        go_wp2_with (at_builtin; refine wpList_append_own _ rfl (.tmp 23) (.tmp 27) 22 rfl w.heap.size 27 i0 (.slice none 0 0) 1 24 Try.underlying22 hi hz0 hz1 hz2 rfl (by decide) _ _ _ rfl hrowA ⟨wr.heap.size, 0, none⟩ 1 1 [.slice qr m cr] rfl rfl (cell_one_new _ _ _) (by simp [Value.oneCell']) (by unfold maxLen; omega) (by omega) (by have := hB.size; simp; omega) ?_; intro o2 w2 hown2 hg2 _)
        have hA := fin m (by omega) (.slice qr m cr) _ o2 w2 (hr0.front2 m (by omega)) (hr0.back m (by omega)) hg2 hown2
        refine ⟨hA, ?_⟩
        simp [intOf]; omega
    · have he : k = cs.length := by omega
      have hrowA := hrow.alloc (.cells #[.slice qr rest.length cr] 27)
      have hsum2 : piecesL s cs = pre ++ [rest] := by rw [hsum, he]; simp [piecesL]
      have hpl : pre.length ≤ 1000 := by omega
      go_wp2_with (at_builtin; refine wpList_append_own _ rfl (.tmp 32) (.tmp 34) 22 rfl w.heap.size 27 i0 (.slice none 0 0) 1 24 Try.underlying22 hi hz0 hz1 hz2 rfl (by decide) _ _ _ rfl hrowA ⟨wr.heap.size, 0, none⟩ 1 1 [.slice qr rest.length cr] rfl rfl (cell_one_new _ _ _) (by simp [Value.oneCell']) (by unfold maxLen; omega) (by omega) (by have := hB.size; simp; omega) ?_; intro o2 w2 hown2 hg2 _)
      go_ret
      have hB2 : Below w.heap.size w w2 := (hB.alloc hB.size _).grown hg2 (by have := hB.size; simp; omega) (fun j hj => (World.ownsRow.lt hrow j hj).1)
      refine ⟨_, rfl, ?_, hB2⟩
      rw [hsum2]
      exact (Pr.push hus hu hr0 hown2).fs hB2
end Go.Proofs.Ytlacngdbembkkaa
