/- What the pipe's methods do in memory. -/
import Derived.Test.YtihdjneoemlddaaBytes
import Derived.Conc.LoneSelectN
namespace Go.Proofs.Ytihdjneoemlddaa
open Go.RowKit Go.Conc

/-- How many bytes. -/
def total : List (List Int) → Nat
  | [] => 0
  | l :: ls => l.length + total ls

/-- A pipe in memory: its pieces wait in the channel; Av names the blocks in which no byte of it lies. -/
structure Pip (w : World) (Av : Nat → Prop) (p c room : Nat) (pieces : List (List Int)) (first : List Int) (cl : Bool) : Prop where
  c0 : w.cell? ⟨p, 0, none⟩ = some (.chan (some c))
  c1 : ∃ v, w.cell? ⟨p, 1, none⟩ = some v ∧ Bs w Av v first
  c2 : w.cell? ⟨p, 2, none⟩ = some (.int .i64 ((first.length + total pieces : Nat) : Int))
  c3 : w.cell? ⟨p, 3, none⟩ = some (.bool cl)
  f1 : w.frozen? ⟨p, 1, none⟩ = false
  f2 : w.frozen? ⟨p, 2, none⟩ = false
  f3 : w.frozen? ⟨p, 3, none⟩ = false
  ch : ∃ buf s r, w.heap[c]? = some (.chan room buf false s r false) ∧ buf.size = pieces.length ∧ ∀ j l, pieces[j]? = some l → Bs w Av (buf.getD j undef) l
  ne : p ≠ c
  avp : Av p
  avc : Av c
  full : ∀ l ∈ pieces, l ≠ []
  fit : pieces.length ≤ room

theorem lt_of_cell {w : World} {p : Addr} {v : Value} (h : w.cell? p = some v) : p.block < w.heap.size := World.block_lt_of_cell? _ _ h
theorem lt_of_block {w : World} {k : Nat} {o : Obj} (h : w.heap[k]? = some o) : k < w.heap.size := by
  by_cases hk : k < w.heap.size
  · exact hk
  · rw [Array.getElem?_eq_none (by omega)] at h; cases h

theorem Bs.turn {w w' : World} {Av Av' S : Nat → Prop} {v : Value} {l : List Int} (h : Bs w Av v l) (hx : Ext S w w') (hs : ∀ k, k < w.heap.size → S k → Av k) (ha : ∀ k, k < w.heap.size → Av' k → Av k) : Bs w' Av' v l := by
  obtain ⟨p, cap, rfl, hcp, h⟩ := h
  refine ⟨p, cap, rfl, hcp, fun hl => ?_⟩
  obtain ⟨b, off, rfl, h1, h2, h3⟩ := h hl
  exact ⟨b, off, rfl, fun av => h1 (ha b h2 av), Nat.lt_of_lt_of_le h2 hx.size, fun j x e => (hx.cell (p := ⟨b, off + j, none⟩) h2 (fun s => h1 (hs b h2 s))).trans (h3 j x e)⟩

theorem Pip.keep {w w' : World} {Av Av' S : Nat → Prop} {p c room : Nat} {pieces : List (List Int)} {first : List Int} {cl : Bool} (h : Pip w Av p c room pieces first cl) (hx : Ext S w w')
    (hs : ∀ k, k < w.heap.size → S k → Av k ∧ k ≠ p ∧ k ≠ c) (ha : ∀ k, k < w.heap.size → Av' k → Av k) (hp : Av' p) (hc : Av' c) : Pip w' Av' p c room pieces first cl := by
  have hpl := lt_of_cell h.c0
  have hsp : ¬ S p := fun s => (hs p hpl s).2.1 rfl
  obtain ⟨buf, s, r, hb, h1, h2⟩ := h.ch
  have hcl := lt_of_block hb
  have hsc : ¬ S c := fun s => (hs c hcl s).2.2 rfl
  have kb : ∀ {v l}, Bs w Av v l → Bs w' Av' v l := fun hb => hb.turn hx (fun k hk s => (hs k hk s).1) ha
  obtain ⟨v, c1, bs⟩ := h.c1
  exact ⟨(hx.cell hpl hsp).trans h.c0, ⟨v, (hx.cell (by exact hpl) hsp).trans c1, kb bs⟩, (hx.cell (by exact hpl) hsp).trans h.c2, (hx.cell (by exact hpl) hsp).trans h.c3, (hx.frozen (by exact hpl) hsp).trans h.f1, (hx.frozen (by exact hpl) hsp).trans h.f2, (hx.frozen (by exact hpl) hsp).trans h.f3,
    ⟨buf, s, r, (hx.block c hcl hsc).trans hb, h1, fun j l e => kb (h2 j l e)⟩, h.ne, hp, hc, h.full, h.fit⟩

section
variable {w : World} {Av : Nat → Prop} {p c room : Nat} {pieces : List (List Int)} {first : List Int} {cl : Bool}

set_option maxHeartbeats 800000 in
theorem len_some (h : Pip w Av p c room pieces first cl) :
    Calls Try.prog 14 #[.pointer (some ⟨p, 0, none⟩)] w fun e w' => e = .returned (.int .i64 ((first.length + total pieces : Nat) : Int)) ∧ w' = w := by
  have h0 := h.c0
  have h2 := h.c2
  generalize ((first.length + total pieces : Nat) : Int) = n at *
  go_enter Try.func14, Try.ntmps14
  go_wp2_with fail
  go_at_call 19
  refine (none_some p c _ h0).mono ?_
  rintro e w1 ⟨rfl, rfl⟩
  go_wp2
  go_ret
  exact ⟨rfl, rfl⟩
set_option maxHeartbeats 800000 in
theorem len_nil (w : World) : Calls Try.prog 14 #[.pointer none] w fun e w' => e = .returned (.int .i64 0) ∧ w' = w := by
  go_enter Try.func14, Try.ntmps14
  go_wp2_with fail
  go_at_call 19
  refine (none_nil _).mono ?_
  rintro e w1 ⟨rfl, rfl⟩
  go_wp2
  go_ret
  exact ⟨rfl, rfl⟩
set_option maxHeartbeats 800000 in
theorem pieces_some (h : Pip w Av p c room pieces first cl) :
    Calls Try.prog 16 #[.pointer (some ⟨p, 0, none⟩)] w fun e w' => e = .returned (.int .i64 (pieces.length : Int)) ∧ w' = w := by
  have h0 := h.c0
  obtain ⟨buf, s, r, hb, h1, _⟩ := h.ch
  rw [← h1]
  clear h1
  have hlen := run_len_chan (P := Try.prog) 43 3 Try.underlying43 hb
  go_enter Try.func16, Try.ntmps16
  go_wp2_with fail
  go_at_call 19
  refine (none_some p c _ h0).mono ?_
  rintro e w1 ⟨rfl, rfl⟩
  go_wp2
  go_ret
  exact ⟨rfl, rfl⟩
set_option maxHeartbeats 800000 in
theorem over_some (h : Pip w Av p c room pieces first cl) :
    Calls Try.prog 18 #[.pointer (some ⟨p, 0, none⟩)] w fun e w' => e = .returned (.bool (cl && decide (first.length + total pieces = 0))) ∧ w' = w := by
  have h0 := h.c0
  have h2 := h.c2
  have h3 := h.c3
  generalize first.length + total pieces = n at *
  by_cases hn : n = 0
  · subst hn
    cases cl
    · go_enter Try.func18, Try.ntmps18
      go_wp2_with fail
      go_at_call 19
      refine (none_some p c _ h0).mono ?_
      rintro e w1 ⟨rfl, rfl⟩
      go_wp2
      go_ret
      exact ⟨rfl, rfl⟩
    · go_enter Try.func18, Try.ntmps18
      go_wp2_with fail
      go_at_call 19
      refine (none_some p c _ h0).mono ?_
      rintro e w1 ⟨rfl, rfl⟩
      go_wp2
      go_ret
      exact ⟨rfl, rfl⟩
  · have hn' : ((n : Int) == 0) = false := by simp; omega
    have hd : decide (n = 0) = false := by simp [hn]
    rw [hd]
    cases cl
    · go_enter Try.func18, Try.ntmps18
      go_wp2_with fail
      go_at_call 19
      refine (none_some p c _ h0).mono ?_
      rintro e w1 ⟨rfl, rfl⟩
      go_wp2
      go_ret
      exact ⟨rfl, rfl⟩
    · go_enter Try.func18, Try.ntmps18
      go_wp2_with fail
      go_at_call 19
      refine (none_some p c _ h0).mono ?_
      rintro e w1 ⟨rfl, rfl⟩
      go_wp2
      go_ret
      exact ⟨rfl, rfl⟩
set_option maxHeartbeats 800000 in
theorem over_nil (w : World) : Calls Try.prog 18 #[.pointer none] w fun e w' => e = .returned (.bool true) ∧ w' = w := by
  go_enter Try.func18, Try.ntmps18
  go_wp2_with fail
  go_at_call 19
  refine (none_nil _).mono ?_
  rintro e w1 ⟨rfl, rfl⟩
  go_wp2
  go_ret
  exact ⟨rfl, rfl⟩
set_option maxHeartbeats 800000 in
theorem close_some (h : Pip w Av p c room pieces first cl) :
    Calls Try.prog 13 #[.pointer (some ⟨p, 0, none⟩)] w fun e w' => e = .returned (.tuple #[]) ∧ w' = w.setCell ⟨p, 3, none⟩ (.bool true) := by
  have h0 := h.c0
  have h3 := h.c3
  have f3 := h.f3
  go_enter Try.func13, Try.ntmps13
  go_wp2_with fail
  go_at_call 19
  refine (none_some p c _ h0).mono ?_
  rintro e w1 ⟨rfl, rfl⟩
  go_wp2
  go_end0
  exact ⟨rfl, rfl⟩
end
end Go.Proofs.Ytihdjneoemlddaa
