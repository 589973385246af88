/- The document's pipe: its value in memory; what Len and Pieces tell. -/
import Derived.Test.YtihdjneoemlddaaOrder
namespace Go.Proofs.Ytihdjneoemlddaa
open Go.RowKit Go.Conc

/-- A value that reads as these rows of bytes, in blocks that Av does not name. -/
def Bss (w : World) (Av : Nat → Prop) (v : Value) (L : List (List Int)) : Prop :=
  ∃ q cap, v = .slice q L.length cap ∧ L.length ≤ cap ∧ (L ≠ [] → ∃ b off, q = some ⟨b, off, none⟩ ∧ ¬ Av b ∧ b < w.heap.size ∧ ∀ j l, L[j]? = some l → ∃ u, w.cell? ⟨b, off + j, none⟩ = some u ∧ Bs w Av u l)
theorem Bss.turn {w w' : World} {Av Av' S : Nat → Prop} {v : Value} {L : List (List Int)} (h : Bss w Av v L) (hx : Ext S w w') (hs : ∀ k, k < w.heap.size → S k → Av k) (ha : ∀ k, k < w.heap.size → Av' k → Av k) : Bss w' Av' v L := by
  obtain ⟨q, cap, rfl, hc, h⟩ := h
  refine ⟨q, cap, rfl, hc, fun hl => ?_⟩
  obtain ⟨b, off, rfl, h1, h2, h3⟩ := h hl
  refine ⟨b, off, rfl, fun av => h1 (ha b h2 av), Nat.lt_of_lt_of_le h2 hx.size, fun j l e => ?_⟩
  obtain ⟨u, hu, hb⟩ := h3 j l e
  exact ⟨u, (hx.cell (p := ⟨b, off + j, none⟩) h2 (fun s => h1 (hs b h2 s))).trans hu, hb.turn hx hs ha⟩
theorem Bss.nil (w : World) (Av : Nat → Prop) : Bss w Av (.slice none 0 0) [] := ⟨none, 0, rfl, Nat.le_refl _, fun h => absurd rfl h⟩

/-- The rows of the document's pipe and how many bytes were taken of the first one; what is being taken and what waits. -/
structure Like (L : List (List Int)) (t : Nat) (first : List Int) (pieces : List (List Int)) : Prop where
  or : (t = 0 ∧ first = [] ∧ L = pieces) ∨ ∃ x, 0 < t ∧ t < x.length ∧ L = x :: pieces ∧ first = x.drop t

set_option maxHeartbeats 1600000 in
theorem refPieces_eq {w : World} {Av : Nat → Prop} {lv : Value} {L : List (List Int)} {t room : Nat} {cl : Bool} {first : List Int} {pieces : List (List Int)} (h : Bss w Av lv L) (hk : Like L t first pieces) (hn : L.length ≤ 100000) :
    Calls Try.prog 17 #[.agg #[.int .i64 room, lv, .int .i64 t, .bool cl]] w fun e w' => e = .returned (.int .i64 (pieces.length : Int)) ∧ Ext (fun _ => False) w w' := by
  obtain ⟨q, cap, rfl, hc, h⟩ := h
  rcases hk.or with ⟨rfl, rfl, rfl⟩ | ⟨x, ht, htx, rfl, rfl⟩
  · go_enter Try.func17, Try.ntmps17
    go_wp2
    go_ret
    exact ⟨rfl, (Ext.refl _ w).alloc _⟩
  · have ht' : (0 : Int) < (t : Int) := by omega
    go_enter Try.func17, Try.ntmps17
    go_wp2
    go_ret
    have hpl : pieces.length ≤ 99999 := by simpa using hn
    have hwr : wrap64 (pieces.length : Int) = pieces.length := by unfold wrap64; omega
    exact ⟨by simp [hwr], (Ext.refl _ w).alloc _⟩

theorem total_cons_le {L : List (List Int)} {j : Nat} {l : List Int} (h : L[j]? = some l) : l.length ≤ total L := by
  induction L generalizing j with
  | nil => simp at h
  | cons x L ih =>
    cases j with
    | zero => simp at h; subst h; simp [total]
    | succ j => simp at h; have := ih h; simp [total]; omega
theorem total_take_succ {L : List (List Int)} {j : Nat} {l : List Int} (h : L[j]? = some l) : total (L.take (j + 1)) = total (L.take j) + l.length := by
  have hj := (List.getElem?_eq_some_iff.1 h)
  obtain ⟨hj, rfl⟩ := hj
  rw [List.take_succ_eq_append_getElem hj, total_snoc]
theorem total_take_le (L : List (List Int)) (j : Nat) : total (L.take j) ≤ total L := by
  induction L generalizing j with
  | nil => simp [total]
  | cons x L ih =>
    cases j with
    | zero => simp [total]
    | succ j => simp only [List.take_succ_cons, total]; have := ih j; omega

set_option maxHeartbeats 1600000 in
theorem refLen_eq {w : World} {Av : Nat → Prop} {lv : Value} {L : List (List Int)} {t room : Nat} {cl : Bool} {first : List Int} {pieces : List (List Int)} (h : Bss w Av lv L) (hk : Like L t first pieces) (hn : L.length ≤ 100000) (htot : total L ≤ 1000000000) :
    Calls Try.prog 15 #[.agg #[.int .i64 room, lv, .int .i64 t, .bool cl]] w fun e w' => e = .returned (.int .i64 ((first.length + total pieces : Nat) : Int)) ∧ Ext (fun _ => False) w w' := by
  have ht : t ≤ 1000000000 ∧ total L = t + (first.length + total pieces) := by
    rcases hk.or with ⟨rfl, rfl, rfl⟩ | ⟨x, ht, htx, rfl, rfl⟩
    · simp
    · simp [total] at htot ⊢; omega
  have hw1 := h.turn ((Ext.refl (fun _ => False) w).alloc (.cells #[.int .i64 room, lv, .int .i64 t, .bool cl] 29)) (fun _ _ h => h.elim) (fun _ _ a => a)
  have hX := (Ext.refl (fun _ => False) w).alloc (.cells #[.int .i64 room, lv, .int .i64 t, .bool cl] 29)
  obtain ⟨q, cap, rfl, hc, h'⟩ := id hw1
  have ht1 := ht.1
  go_enter Try.func15, Try.ntmps15
  go_wp2_with fail
  have k1 : (w.alloc (.cells #[.int .i64 room, .slice q L.length cap, .int .i64 t, .bool cl] 29)).cell? ⟨w.heap.size, 1, none⟩ = some (.slice q L.length cap) := by rw [World.cell?_alloc_at _ _ _ _ rfl]; rfl
  have k2 : (w.alloc (.cells #[.int .i64 room, .slice q L.length cap, .int .i64 t, .bool cl] 29)).cell? ⟨w.heap.size, 2, none⟩ = some (.int .i64 t) := by rw [World.cell?_alloc_at _ _ _ _ rfl]; rfl
  generalize w.alloc (.cells #[.int .i64 room, .slice q L.length cap, .int .i64 t, .bool cl] 29) = w1 at *
  generalize w.heap.size = b0 at *
  have htl := total_take_le L
  generalize hT : total L = T at *
  clear hk
  go_loopw [3, 4] (fun n i wr => ∃ j : Nat, j ≤ L.length ∧ i = .int .i64 j ∧ n = .int .i64 ((total (L.take j) : Int) - t) ∧ wr = w1) (fun _ i _ => (L.length - intOf i).toNat)
  case atStart => exact ⟨0, by omega, rfl, by simp [total], rfl⟩
  case round =>
    obtain ⟨j, hj, rfl, rfl, rfl⟩ := hrel
    by_cases hjl : j < L.length
    · obtain ⟨b, off, rfl, _, _, g⟩ := h' (by intro h; simp [h] at hjl)
      obtain ⟨l, hl⟩ : ∃ x, L[j]? = some x := ⟨_, List.getElem?_eq_getElem hjl⟩
      obtain ⟨u, hu, qu, cu, rfl, _, _⟩ := g j l hl
      have hsu := total_take_succ hl
      have hle := htl (j + 1)
      have hle0 := htl j
      clear g h'
      generalize total (L.take j) = tj at *
      go_wp2_with fail
      go_roundw
      case rel => exact ⟨j + 1, by omega, by go_num, by rw [hsu]; go_num, trivial⟩
      case measure => simp [intOf]; omega
    · have hje : j = L.length := by omega
      subst hje
      have : total (L.take L.length) = T := by rw [List.take_length, hT]
      rw [this] at *
      go_wp2_with fail
      go_ret
      exact ⟨by simp; omega, hX⟩
end Go.Proofs.Ytihdjneoemlddaa
