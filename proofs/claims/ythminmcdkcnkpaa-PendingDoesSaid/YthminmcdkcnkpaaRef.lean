/- The document's table: its list in memory; Answer, Find, Next, Same. -/
import Derived.Test.YthminmcdkcnkpaaActs
import Derived.Maps.AppendAt
namespace Go.Proofs.Ythminmcdkcnkpaa
open Go.RowKit Go.Maps

/-- The document's list: each number with its kind, in a block that Av does not name. -/
def Rl (w : World) (Av : Nat → Prop) (v : Value) (L : List En) : Prop :=
  ∃ q cap, v = .slice q L.length cap ∧ L.length ≤ cap ∧ (L ≠ [] → ∃ b off, q = some ⟨b, off, none⟩ ∧ ¬ Av b ∧ b < w.heap.size ∧ ∀ j e, L[j]? = some e → w.cell? ⟨b, off + j * 2, none⟩ = some (.int .u32 e.1) ∧ w.cell? ⟨b, off + j * 2 + 1, none⟩ = some (.int .i64 e.2.1))

section
variable {w w' : World} {Av Av' : Nat → Prop} {v : Value} {L : List En}
theorem Rl.keep {S : Nat → Prop} (h : Rl w Av v L) (hx : Ext S w w') (hs : ∀ k, k < w.heap.size → S k → Av k) : Rl w' Av v L := by
  obtain ⟨q, cap, rfl, hc, h⟩ := h
  refine ⟨q, cap, rfl, hc, fun hl => ?_⟩
  obtain ⟨b, off, rfl, h1, h2, h3⟩ := h hl
  have hn : ¬ S b := fun s => h1 (hs b h2 s)
  exact ⟨b, off, rfl, h1, Nat.lt_of_lt_of_le h2 hx.size, fun j e he => ⟨(hx.cell (by exact h2) hn).trans (h3 j e he).1, (hx.cell (by exact h2) hn).trans (h3 j e he).2⟩⟩
theorem Rl.mono (h : Rl w Av v L) (ha : ∀ k, k < w.heap.size → Av' k → Av k) : Rl w Av' v L := by
  obtain ⟨q, cap, rfl, hc, h⟩ := h
  refine ⟨q, cap, rfl, hc, fun hl => ?_⟩
  obtain ⟨b, off, rfl, h1, h2, h3⟩ := h hl
  exact ⟨b, off, rfl, fun a => h1 (ha b h2 a), h2, h3⟩
theorem Rl.nil (w : World) (Av : Nat → Prop) (c : Nat) : Rl w Av (.slice none 0 c) [] := ⟨none, c, rfl, Nat.zero_le _, fun h => absurd rfl h⟩

/-- A struct's block: a table of the document's. -/
structure Bx (w : World) (B : Nat) (room last : Int) (v : Value) : Prop where
  c0 : w.cell? ⟨B, 0, none⟩ = some (.int .i64 room)
  c1 : w.cell? ⟨B, 1, none⟩ = some (.int .u32 last)
  c2 : w.cell? ⟨B, 2, none⟩ = some v
  fz : ∀ j, w.frozen? ⟨B, j, none⟩ = false
  lt : B < w.heap.size
theorem Bx.of_obj {B : Nat} {room last : Int} (h : w.heap[B]? = some (.cells #[.int .i64 room, .int .u32 last, v] 39 (0, 0))) : Bx w B room last v :=
  ⟨by simp [World.cell?, h], by simp [World.cell?, h], by simp [World.cell?, h], fun j => by simp [World.frozen?, h], lt_of_block h⟩
theorem Bx.keep {S : Nat → Prop} {B : Nat} {room last : Int} (h : Bx w B room last v) (hx : Ext S w w') (hs : ¬ S B) : Bx w' B room last v :=
  ⟨(hx.cell (p := ⟨B, 0, none⟩) h.lt hs).trans h.c0, (hx.cell (p := ⟨B, 1, none⟩) h.lt hs).trans h.c1, (hx.cell (p := ⟨B, 2, none⟩) h.lt hs).trans h.c2, fun j => (hx.frozen (p := ⟨B, j, none⟩) h.lt hs).trans (h.fz j), Nat.lt_of_lt_of_le h.lt hx.size⟩

set_option maxHeartbeats 3200000 in
theorem refAnswer_ok (k : Int) (w : World) : Calls Try.prog 29 #[.int .i64 k] w fun e w' => e = .returned (.tuple #[.int .i64 (if isAsk k then k + 1 else 0), .bool (isAsk k)]) ∧ w' = w := by
  by_cases hk : isAsk k = true
  · have hk' := hk
    simp only [isAsk, decide_eq_true_eq] at hk
    rw [hk']
    rcases hk with rfl | rfl | rfl | rfl | rfl | rfl | rfl | rfl
    all_goals (
      go_enter Try.func29, Try.ntmps29
      go_wp2
      go_ret2
      exact ⟨rfl, rfl⟩)
  · rw [Bool.not_eq_true] at hk
    rw [hk]
    simp only [isAsk, decide_eq_false_iff_not, not_or] at hk
    obtain ⟨h2, h5, h7, h18, h20, h22, h24, h26⟩ := hk
    have b2 : (k == 2) = false := by simp [h2]
    have b5 : (k == 5) = false := by simp [h5]
    have b7 : (k == 7) = false := by simp [h7]
    have b18 : (k == 18) = false := by simp [h18]
    have b20 : (k == 20) = false := by simp [h20]
    have b22 : (k == 22) = false := by simp [h22]
    have b24 : (k == 24) = false := by simp [h24]
    have b26 : (k == 26) = false := by simp [h26]
    clear h2 h5 h7 h18 h20 h22 h24 h26
    go_enter Try.func29, Try.ntmps29
    go_wp2
    go_ret2
    exact ⟨rfl, rfl⟩

/-- The place of a number; -1: it does not wait. -/
def findI (L : List En) (x : Int) : Int := if x ∈ keys L then ((keys L).idxOf x : Nat) else -1
theorem findI_at {k : Nat} {e : En} (hk : L[k]? = some e) (hnd : ∀ j e', j < k → L[j]? = some e' → e'.1 ≠ e.1) : findI L e.1 = k := by
  have hkl := (List.getElem?_eq_some_iff.1 hk).1
  have hm : e.1 ∈ keys L := mem_keys.2 ⟨e, List.mem_of_getElem? hk, rfl⟩
  have : (keys L).idxOf e.1 = k := by
    have hkk : (keys L)[k]? = some e.1 := by simp [keys, hk]
    have hkl' : k < (keys L).length := by simpa [keys] using hkl
    have h1 : (keys L).idxOf e.1 ≤ k := by
      refine Nat.le_of_not_lt fun hlt => ?_
      have := List.not_of_lt_findIdx (p := (· == e.1)) (xs := keys L) (i := k) hlt
      rw [List.getElem?_eq_getElem hkl'] at hkk
      injection hkk with hkk
      simp [hkk] at this
    refine Nat.le_antisymm h1 (Nat.le_of_not_lt fun hlt => ?_)
    have hil : (keys L).idxOf e.1 < (keys L).length := List.idxOf_lt_length_iff.2 hm
    have hg : (keys L)[(keys L).idxOf e.1] = e.1 := List.getElem_idxOf hil
    have hil' : (keys L).idxOf e.1 < L.length := by simpa [keys] using hil
    refine hnd _ _ hlt (List.getElem?_eq_getElem hil') ?_
    simp only [keys, List.getElem_map] at hg
    exact hg
  simp [findI, hm, this]
theorem findI_none {x : Int} (h : x ∉ keys L) : findI L x = -1 := by simp [findI, h]
theorem findI_none' {x : Int} (h : ∀ j e, j < L.length → L[j]? = some e → e.1 ≠ x) : findI L x = -1 := by
  refine findI_none fun hm => ?_
  obtain ⟨e, he, rfl⟩ := mem_keys.1 hm
  obtain ⟨j, hj⟩ := List.mem_iff_getElem?.1 he
  exact h j e (List.getElem?_eq_some_iff.1 hj).1 hj rfl

set_option maxHeartbeats 3200000 in
theorem find_ok (h : Rl w Av v L) (room last x : Int) (hl : L.length ≤ 100000) : Calls Try.prog 13 #[.agg #[.int .i64 room, .int .u32 last, v], .int .u32 x] w fun e w' => e = .returned (.int .i64 (findI L x)) ∧ Below w.heap.size w w' := by
  obtain ⟨q, cap, rfl, hc, h⟩ := h
  have hb : Bx (w.alloc (.cells #[.int .i64 room, .int .u32 last, .slice q L.length cap] 39)) w.heap.size room last (.slice q L.length cap) := Bx.of_obj (MapKept.heap_alloc w _).1
  have hB : Below w.heap.size w (w.alloc (.cells #[.int .i64 room, .int .u32 last, .slice q L.length cap] 39)) := (Below.refl _ w).alloc (Nat.le_refl _) _
  go_enter Try.func13, Try.ntmps13
  go_wp2_with fail
  generalize w.alloc (.cells #[.int .i64 room, .int .u32 last, .slice q L.length cap] 39) = W at hb hB ⊢
  have c2 := hb.c2
  go_loopw [5] (fun i wr => ∃ k : Nat, k ≤ L.length ∧ i = .int .i64 k ∧ wr = W ∧ ∀ j e, j < k → L[j]? = some e → e.1 ≠ x) (fun i _ => (L.length - intOf i).toNat)
  case atStart => exact ⟨0, by omega, rfl, rfl, fun j e hj => by omega⟩
  case round =>
    obtain ⟨k, hk, rfl, hw, hno⟩ := hrel
    subst hw
    by_cases hkn : k < L.length
    · obtain ⟨b, off, rfl, _, g2, g⟩ := h (by intro e; simp [e] at hkn)
      obtain ⟨e, he⟩ : ∃ e, L[k]? = some e := ⟨_, List.getElem?_eq_getElem hkn⟩
      have c3 := (hB.cell (p := ⟨b, off + k * 2, none⟩) g2).trans (g k e he).1
      have hka : (k : Int) < (L.length : Int) := by omega
      clear g h
      by_cases hx : e.1 = x
      · rw [hx] at c3
        go_wp2
        go_ret
        subst hx
        exact ⟨by rw [findI_at he hno]; rfl, hB⟩
      · have hx' : ¬ x = e.1 := fun h => hx h.symm
        go_wp2
        go_roundw
        · exact ⟨k + 1, by omega, by go_num, trivial, fun j e' hj he' => by
            rcases Nat.lt_succ_iff_lt_or_eq.1 hj with h | rfl
            · exact hno j e' h he'
            · rw [he] at he'; cases he'; exact hx⟩
        · simp [intOf]; omega
    · have hkl : k = L.length := by omega
      subst hkl
      go_wp2
      go_ret
      exact ⟨by rw [findI_none' hno]; rfl, hB⟩
end
end Go.Proofs.Ythminmcdkcnkpaa
