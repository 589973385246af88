/- What Put does in any case; the fixed calls. -/
import Derived.Test.YtihdjneoemlddaaTake2
namespace Go.Proofs.Ytihdjneoemlddaa
open Go.RowKit Go.Conc

theorem Pip.lts {w : World} {Av : Nat → Prop} {p c room : Nat} {pieces : List (List Int)} {first : List Int} {cl : Bool} (h : Pip w Av p c room pieces first cl) : p < w.heap.size ∧ c < w.heap.size :=
  ⟨lt_of_cell h.c0, by obtain ⟨_, _, _, hb, _⟩ := h.ch; exact lt_of_block hb⟩

/-- The pieces that wait behind a Put. -/
def putl (cl : Bool) (room : Nat) (pieces : List (List Int)) (l : List Int) : List (List Int) :=
  if cl = false ∧ pieces.length < room ∧ l ≠ [] then pieces ++ [l] else pieces

theorem put_any {w : World} {Av : Nat → Prop} {p c room : Nat} {pieces : List (List Int)} {first : List Int} {cl : Bool} (h : Pip w Av p c room pieces first cl) (v : Value) (l : List Int) (Av' : Nat → Prop) (hv : Bs w Av' v l)
    (hln : l.length ≤ 1000000) (htot : first.length + total pieces ≤ 1000000000) (hlt : ∀ k, Av k → k < w.heap.size) :
    Calls Try.prog 9 #[.pointer (some ⟨p, 0, none⟩), v] w fun e w' => e = .returned (.bool (!cl && decide (pieces.length < room))) ∧ Pip w' Av p c room (putl cl room pieces l) first cl ∧ Ext (fun k => k = p ∨ k = c) w w' := by
  cases cl with
  | true =>
    refine (put_closed h v).mono ?_
    rintro e w' ⟨rfl, n, rfl⟩
    exact ⟨rfl, h.keep ((Ext.refl (fun _ => False) w).drewN n) (fun _ _ h => h.elim) (fun _ _ a => a) h.avp h.avc, (Ext.refl _ w).drewN n⟩
  | false =>
    by_cases hr : pieces.length < room
    · by_cases hl : l = []
      · subst hl
        obtain ⟨q, cp, rfl, _⟩ := hv
        refine (put_empty h q cp hr).mono ?_
        rintro e w' ⟨rfl, n, rfl⟩
        exact ⟨by simp [hr], by simpa [putl] using h.keep ((Ext.refl (fun _ => False) w).drewN n) (fun _ _ h => h.elim) (fun _ _ a => a) h.avp h.avc, (Ext.refl _ w).drewN n⟩
      · refine (put_ok h v l Av' hv hl hr hln htot hlt).mono ?_
        rintro e w' ⟨rfl, hp, hX⟩
        exact ⟨by simp [hr], by simpa [putl, hr, hl] using hp, hX⟩
    · refine (put_full h v (by have := h.fit; omega)).mono ?_
      rintro e w' ⟨rfl, n, rfl⟩
      exact ⟨by simp [hr], by simpa [putl, hr] using h.keep ((Ext.refl (fun _ => False) w).drewN n) (fun _ _ h => h.elim) (fun _ _ a => a) h.avp h.avc, (Ext.refl _ w).drewN n⟩

theorem bs_lit (w : World) (l : List Int) {cs : Array Value} {n : Nat} (h : cs = (l.map (.int .u8)).toArray) (hn : n = l.length) :
    Bs (w.alloc (.cells cs 5)) (fun k => k < w.heap.size) (.slice (some ⟨w.heap.size, 0, none⟩) n n) l := by
  subst h hn
  refine ⟨_, _, rfl, Nat.le_refl _, fun _ => ⟨w.heap.size, 0, rfl, by omega, by simp, fun j x hj => ?_⟩⟩
  rw [World.cell?_alloc_at _ _ _ _ rfl]
  simp [hj]

/-- The blocks of a pipe. -/
def Two (p c : Nat) (k : Nat) : Prop := k = p ∨ k = c
theorem Pip.lt2 {w : World} {p c room : Nat} {pieces : List (List Int)} {first : List Int} {cl : Bool} (h : Pip w (Two p c) p c room pieces first cl) : ∀ k, Two p c k → k < w.heap.size := by
  rintro k (rfl | rfl)
  · exact h.lts.1
  · exact h.lts.2
theorem Pip.alloc2 {w : World} {p c room : Nat} {pieces : List (List Int)} {first : List Int} {cl : Bool} (h : Pip w (Two p c) p c room pieces first cl) (o : Obj) : Pip (w.alloc o) (Two p c) p c room pieces first cl :=
  h.keep ((Ext.refl (fun _ => False) w).alloc o) (fun _ _ h => h.elim) (fun _ _ a => a) h.avp h.avc

theorem put2 {w : World} {p c room : Nat} {pieces : List (List Int)} {first : List Int} {cl : Bool} {m : Nat} (h : Pip w (Two p c) p c room pieces first cl) (l : List Int) (hm : m ≤ w.heap.size ∧ m ≤ p ∧ m ≤ c) {cs : Array Value} {n : Nat} (hcs : cs = (l.map (.int .u8)).toArray) (hn : n = l.length)
    (hln : l.length ≤ 1000000) (htot : first.length + total pieces ≤ 1000000000) (ok : Bool) (ps : List (List Int)) (hok : (!cl && decide (pieces.length < room)) = ok) (hps : putl cl room pieces l = ps) :
    Calls Try.prog 9 #[.pointer (some ⟨p, 0, none⟩), .slice (some ⟨w.heap.size, 0, none⟩) n n] (w.alloc (.cells cs 5)) fun e w' => e = .returned (.bool ok) ∧ Pip w' (Two p c) p c room ps first cl ∧ (m ≤ w'.heap.size ∧ m ≤ p ∧ m ≤ c) ∧ Ext (fun k => k = p ∨ k = c) w w' := by
  subst hok hps
  refine (put_any (h.alloc2 _) _ l _ (bs_lit w l hcs hn) hln htot (h.alloc2 _).lt2).mono ?_
  rintro e w' ⟨rfl, hp, hX⟩
  exact ⟨rfl, hp, ⟨by have := hX.size; simp at this; omega, hm.2⟩, ((Ext.refl _ w).alloc _).trans hX⟩

theorem take2 {w : World} {p c room : Nat} {pieces : List (List Int)} {first : List Int} {cl : Bool} {m : Nat} (h : Pip w (Two p c) p c room pieces first cl) (hm : m ≤ w.heap.size ∧ m ≤ p ∧ m ≤ c) (n : Nat) (out first' : List Int) (pieces' : List (List Int)) (hn : n ≤ 1000000) (htot : first.length + total pieces ≤ 1000000000) (ht : tk n first pieces = (out, first', pieces')) :
    Calls Try.prog 12 #[.pointer (some ⟨p, 0, none⟩), .int .i64 n] w fun e w' => ∃ v, e = .returned v ∧ Bs w' (Two p c) v out ∧ Pip w' (Two p c) p c room pieces' first' cl ∧ (m ≤ w'.heap.size ∧ m ≤ p ∧ m ≤ c) ∧ Ext (fun k => k = p ∨ k = c) w w' := by
  refine (take_some h n (by omega) htot h.lt2).mono ?_
  rintro e w' ⟨v, rfl, ho, hp, hX⟩
  rw [Int.toNat_natCast, ht] at ho hp
  exact ⟨v, rfl, (bs_of_owns ho).mono (fun k _ hk => h.lt2 k hk), hp.keep (Ext.refl (fun _ => False) _) (fun _ _ h => h.elim) (fun _ _ a => .inl a) (.inl rfl) (.inr rfl), ⟨by have := hX.size; omega, hm.2⟩, hX⟩

theorem Pip.shut {w : World} {Av : Nat → Prop} {p c room : Nat} {pieces : List (List Int)} {first : List Int} {cl : Bool} (h : Pip w Av p c room pieces first cl) : Pip (w.setCell ⟨p, 3, none⟩ (.bool true)) Av p c room pieces first true := by
  have X : Ext (fun k => k = p) w (w.setCell ⟨p, 3, none⟩ (.bool true)) := (Ext.refl (fun k => k = p) w).setCell (p := ⟨p, 3, none⟩) (.inl rfl) _
  have kb : ∀ {u m}, Bs w Av u m → Bs (w.setCell ⟨p, 3, none⟩ (.bool true)) Av u m := fun hu => hu.turn X (fun k _ e => by subst e; exact h.avp) (fun _ _ a => a)
  obtain ⟨buf, s, r, hb, g1, hps⟩ := h.ch
  obtain ⟨v, c1, bs⟩ := h.c1
  have cell : ∀ o, o ≠ 3 → (w.setCell ⟨p, 3, none⟩ (.bool true)).cell? ⟨p, o, none⟩ = w.cell? ⟨p, o, none⟩ := fun o ho => World.cell?_setCell_other _ _ _ _ (by simp <;> exact fun e => ho e.symm)
  refine ⟨(cell 0 (by omega)).trans h.c0, ⟨v, (cell 1 (by omega)).trans c1, kb bs⟩, (cell 2 (by omega)).trans h.c2, World.cell?_setCell_same' _ _ _ (by simp [h.c3]), ?_, ?_, ?_, ⟨buf, s, r, ?_, g1, fun j l e => kb (hps j l e)⟩, h.ne, h.avp, h.avc, h.full, h.fit⟩
  · rw [World.frozen?_setCell]; exact h.f1
  · rw [World.frozen?_setCell]; exact h.f2
  · rw [World.frozen?_setCell]; exact h.f3
  · rw [Below.heap_setCell _ _ _ _ (fun e => h.ne e.symm)]; exact hb

theorem new2 (room : Nat) (w : World) (h1 : 1 ≤ room) (h2 : room ≤ 1024) {m : Nat} (hm : m ≤ w.heap.size) :
    Calls Try.prog 7 #[.int .i64 room] w fun e w' => ∃ p c, e = .returned (.pointer (some ⟨p, 0, none⟩)) ∧ Pip w' (Two p c) p c room [] [] false ∧ (m ≤ w'.heap.size ∧ m ≤ p ∧ m ≤ c) ∧ Ext (fun _ => False) w w' := by
  refine (new_ok room (Two (w.heap.size + 1) w.heap.size) w h1 h2 ⟨.inl rfl, .inr rfl⟩).mono ?_
  rintro e w1 ⟨rfl, hp, hX⟩
  exact ⟨_, _, rfl, hp, ⟨Nat.le_trans hm hX.size, by omega, by omega⟩, hX⟩

theorem close2 {w : World} {p c room : Nat} {pieces : List (List Int)} {first : List Int} {cl : Bool} {m : Nat} (h : Pip w (Two p c) p c room pieces first cl) (hm : m ≤ w.heap.size ∧ m ≤ p ∧ m ≤ c) :
    Calls Try.prog 13 #[.pointer (some ⟨p, 0, none⟩)] w fun e w' => e = .returned (.tuple #[]) ∧ Pip w' (Two p c) p c room pieces first true ∧ (m ≤ w'.heap.size ∧ m ≤ p ∧ m ≤ c) ∧ Ext (fun k => k = p ∨ k = c) w w' := by
  refine (close_some h).mono ?_
  rintro e w' ⟨rfl, rfl⟩
  exact ⟨rfl, h.shut, ⟨by simpa [World.setCell] using hm.1, hm.2⟩, (Ext.refl _ _).setCell (p := ⟨p, 3, none⟩) (.inl (.inl rfl)) _⟩

set_option maxHeartbeats 3200000 in
theorem sure_ok (w : World) : Calls Try.prog 6 #[] w fun e w' => e = .returned (.bool true) ∧ Below w.heap.size w w' := by
  go_enter Try.func6, Try.ntmps6
  go_wp2_with fail
  go_at_call 7
  refine (new2 2 w (by omega) (by omega) (Nat.le_refl _)).mono ?_
  rintro e w1 ⟨p, c, rfl, hp, hm, hX⟩
  have hE : Ext (fun k => w.heap.size ≤ k) w w1 := hX.mono (fun _ _ h => h.elim)
  clear hX
  go_wp2_with fail
  go_at_call 9
  refine (put2 hp [1,2,3] hm rfl rfl (by decide) (by decide) true [[1,2,3]] (by decide) (by decide)).mono ?_
  rintro e w2 ⟨rfl, hp, hm, hX⟩
  replace hE := hE.trans (hX.mono (fun k _ h => by rcases h with rfl | rfl; exact hm.2.1; exact hm.2.2))
  clear hX
  go_wp2_with fail
  go_at_call 9
  refine (put2 hp [4] hm rfl rfl (by decide) (by decide) true [[1,2,3],[4]] (by decide) (by decide)).mono ?_
  rintro e w3 ⟨rfl, hp, hm, hX⟩
  replace hE := hE.trans (hX.mono (fun k _ h => by rcases h with rfl | rfl; exact hm.2.1; exact hm.2.2))
  clear hX
  go_wp2_with fail
  go_at_call 9
  refine (put2 hp [5] hm rfl rfl (by decide) (by decide) false [[1,2,3],[4]] (by decide) (by decide)).mono ?_
  rintro e w4 ⟨rfl, hp, hm, hX⟩
  replace hE := hE.trans (hX.mono (fun k _ h => by rcases h with rfl | rfl; exact hm.2.1; exact hm.2.2))
  clear hX
  go_wp2_with fail
  go_at_call 12
  refine (take2 hp hm 2 [1,2] [3] [[4]] (by omega) (by decide) (by decide)).mono ?_
  rintro e w5 ⟨va, rfl, hva, hp, hm, hX⟩
  replace hE := hE.trans (hX.mono (fun k _ h => by rcases h with rfl | rfl; exact hm.2.1; exact hm.2.2))
  clear hX
  go_wp2_with fail
  go_at_call 9
  refine (put2 hp [6] hm rfl rfl (by decide) (by decide) true [[4],[6]] (by decide) (by decide)).mono ?_
  rintro e w6 ⟨rfl, hp, hm, hX⟩
  replace hE := hE.trans (hX.mono (fun k _ h => by rcases h with rfl | rfl; exact hm.2.1; exact hm.2.2))
  replace hva := hva.keep hX (fun _ _ h => h)
  clear hX
  go_wp2_with fail
  go_at_call 13
  refine (close2 hp hm).mono ?_
  rintro e w7 ⟨rfl, hp, hm, hX⟩
  replace hE := hE.trans (hX.mono (fun k _ h => by rcases h with rfl | rfl; exact hm.2.1; exact hm.2.2))
  replace hva := hva.keep hX (fun _ _ h => h)
  clear hX
  go_wp2_with fail
  go_at_call 9
  refine (put2 hp [7] hm rfl rfl (by decide) (by decide) false [[4],[6]] (by decide) (by decide)).mono ?_
  rintro e w8 ⟨rfl, hp, hm, hX⟩
  replace hE := hE.trans (hX.mono (fun k _ h => by rcases h with rfl | rfl; exact hm.2.1; exact hm.2.2))
  replace hva := hva.keep hX (fun _ _ h => h)
  clear hX
  go_wp2_with fail
  go_at_call 12
  refine (take2 hp hm 9 [3,4,6] [] [] (by omega) (by decide) (by decide)).mono ?_
  rintro e w9 ⟨vb, rfl, hvb, hp, hm, hX⟩
  replace hE := hE.trans (hX.mono (fun k _ h => by rcases h with rfl | rfl; exact hm.2.1; exact hm.2.2))
  replace hva := hva.keep hX (fun _ _ h => h)
  clear hX
  go_wp2_with fail
  go_at_call 11
  refine (bytes_eq _ _ [1,2] [1,2] _ _ _ (hva.keep ((Ext.refl (fun _ => False) _).alloc _) (fun _ _ h => h.elim)) (bs_lit w9 [1,2] rfl rfl) (by decide)).mono ?_
  rintro e w10 ⟨rfl, n, hn⟩
  have hX : Ext (fun _ => False) w9 w10 := by rw [hn]; exact ((Ext.refl _ _).alloc _).drewN n
  clear hn
  rw [show (decide (([1,2] : List Int) = [1,2])) = true by decide]
  replace hE := hE.trans (hX.mono (fun _ _ h => h.elim))
  replace hp := hp.keep hX (fun _ _ h => h.elim) (fun _ _ a => a) hp.avp hp.avc
  replace hvb := hvb.keep hX (fun _ _ h => h.elim)
  clear hX
  go_wp2_with fail
  go_at_call 11
  refine (bytes_eq _ _ [3,4,6] [3,4,6] _ _ _ (hvb.keep ((Ext.refl (fun _ => False) _).alloc _) (fun _ _ h => h.elim)) (bs_lit w10 [3,4,6] rfl rfl) (by decide)).mono ?_
  rintro e w11 ⟨rfl, n, hn⟩
  have hX : Ext (fun _ => False) w10 w11 := by rw [hn]; exact ((Ext.refl _ _).alloc _).drewN n
  clear hn
  rw [show (decide (([3,4,6] : List Int) = [3,4,6])) = true by decide]
  replace hE := hE.trans (hX.mono (fun _ _ h => h.elim))
  replace hp := hp.keep hX (fun _ _ h => h.elim) (fun _ _ a => a) hp.avp hp.avc
  clear hX
  go_wp2_with fail
  go_at_call 18
  refine (over_some hp).mono ?_
  rintro e w12 ⟨rfl, rfl⟩
  simp only [total, List.length_nil, Nat.add_zero, decide_true, Bool.and_true]
  go_wp2_with fail
  go_at_call 18
  refine (over_nil _).mono ?_
  rintro e w13 ⟨rfl, rfl⟩
  go_wp2_with fail
  go_at_call 9
  refine (put_nil _ _).mono ?_
  rintro e w14 ⟨rfl, n, rfl⟩
  replace hE := hE.drewN n
  go_wp2_with fail
  go_at_call 14
  refine (len_nil _).mono ?_
  rintro e w15 ⟨rfl, rfl⟩
  go_wp2
  go_ret
  exact ⟨rfl, hE.below (Nat.le_refl _) (fun k hk => by omega)⟩
end Go.Proofs.Ytihdjneoemlddaa
