/- What Take does. -/
import Derived.Test.YtihdjneoemlddaaPut2
namespace Go.Proofs.Ytihdjneoemlddaa
open Go.RowKit Go.Conc

/-- What is taken, and what is left: of the piece that is being taken, and of those that wait. -/
def tk : Nat → List Int → List (List Int) → List Int × List Int × List (List Int)
  | n, first, [] => (first.take n, first.drop n, [])
  | n, first, x :: ps =>
    if n ≤ first.length then (first.take n, first.drop n, x :: ps)
    else (first ++ (tk (n - first.length) x ps).1, (tk (n - first.length) x ps).2)

theorem tk_zero (first : List Int) (ps : List (List Int)) : tk 0 first ps = ([], first, ps) := by
  cases ps <;> simp [tk]
theorem tk_part {n : Nat} {first : List Int} (ps : List (List Int)) (h : n ≤ first.length) : tk n first ps = (first.take n, first.drop n, ps) := by
  cases ps <;> simp [tk, h]
theorem tk_load {n : Nat} (x : List Int) (ps : List (List Int)) (h : 0 < n) : tk n [] (x :: ps) = tk n x ps := by
  simp only [tk, List.length_nil, show ¬ n ≤ 0 by omega, if_false, Nat.sub_zero, List.nil_append]
theorem tk_all {n : Nat} {first : List Int} (ps : List (List Int)) (h : first.length ≤ n) : tk n first ps = (first ++ (tk (n - first.length) [] ps).1, (tk (n - first.length) [] ps).2) := by
  by_cases he : n = first.length
  · subst he
    rw [Nat.sub_self, tk_zero, tk_part _ (Nat.le_refl _)]
    simp
  · cases ps with
    | nil => simp [tk, List.take_of_length_le h, List.drop_of_length_le h]
    | cons x ps =>
      rw [tk_load _ _ (by omega)]
      simp only [tk, show ¬ n ≤ first.length by omega, if_false]

/-- A pipe behind a taking. -/
theorem Pip.taken {w : World} {Av : Nat → Prop} {p c room : Nat} {pieces : List (List Int)} {first : List Int} {cl : Bool} (h : Pip w Av p c room pieces first cl) (k : Nat) (hk : k ≤ first.length) {b off n cp : Nat}
    (h1 : w.cell? ⟨p, 1, none⟩ = some (.slice (some ⟨b, off, none⟩) n cp)) (q : Option Addr) (hq : k < first.length → q = some ⟨b, off + k, none⟩) (x : Int) (hx : x = (((first.drop k).length + total pieces : Nat) : Int)) :
    Pip ((w.setCell ⟨p, 1, none⟩ (.slice q (first.length - k) (cp - k))).setCell ⟨p, 2, none⟩ (.int .i64 x)) Av p c room pieces (first.drop k) cl := by
  subst hx
  obtain ⟨fv, e1, bs⟩ := h.c1
  rw [h1] at e1
  cases e1
  obtain ⟨q', cap, e, hcp, bs⟩ := bs
  cases e
  have X : Ext (fun k => k = p) w ((w.setCell ⟨p, 1, none⟩ (.slice q (first.length - k) (cp - k))).setCell ⟨p, 2, none⟩ (.int .i64 (((first.drop k).length + total pieces : Nat) : Int))) :=
    ((Ext.refl (fun k => k = p) w).setCell (p := ⟨p, 1, none⟩) (.inl rfl) _).setCell (p := ⟨p, 2, none⟩) (.inl rfl) _
  have kb : ∀ {u m}, Bs w Av u m → Bs ((w.setCell ⟨p, 1, none⟩ (.slice q (first.length - k) (cp - k))).setCell ⟨p, 2, none⟩ (.int .i64 (((first.drop k).length + total pieces : Nat) : Int))) Av u m :=
    fun hu => hu.turn X (fun k _ e => by subst e; exact h.avp) (fun _ _ a => a)
  obtain ⟨buf, s, r, hb, g1, hps⟩ := h.ch
  refine ⟨?_, ⟨.slice q (first.length - k) (cp - k), ?_, ?_⟩, ?_, ?_, ?_, ?_, ?_, ⟨buf, s, r, ?_, g1, fun j l e => kb (hps j l e)⟩, h.ne, h.avp, h.avc, h.full, h.fit⟩
  · rw [World.cell?_setCell_other _ _ _ _ (by simp), World.cell?_setCell_other _ _ _ _ (by simp)]; exact h.c0
  · rw [World.cell?_setCell_other _ _ _ _ (by simp)]; exact World.cell?_setCell_same' _ _ _ (by simp [h1])
  · refine kb ⟨q, cp - k, by simp, by simp; omega, fun hl => ?_⟩
    have hf : first ≠ [] := by rintro rfl; simp at hl
    obtain ⟨b', off', e, a1, a2, a3⟩ := bs hf
    cases e
    exact ⟨b, off + k, hq (by simp at hl; omega), a1, a2, fun j x e => by
      rw [Nat.add_assoc]
      exact a3 (k + j) x (by rw [← e, List.getElem?_drop])⟩
  · exact World.cell?_setCell_same' _ _ _ (by rw [World.cell?_setCell_other _ _ _ _ (by simp)]; simp [h.c2])
  · rw [World.cell?_setCell_other _ _ _ _ (by simp), World.cell?_setCell_other _ _ _ _ (by simp)]; exact h.c3
  · rw [World.frozen?_setCell, World.frozen?_setCell]; exact h.f1
  · rw [World.frozen?_setCell, World.frozen?_setCell]; exact h.f2
  · rw [World.frozen?_setCell, World.frozen?_setCell]; exact h.f3
  · rw [Below.heap_setCell _ _ _ _ (fun e => h.ne e.symm), Below.heap_setCell _ _ _ _ (fun e => h.ne e.symm)]
    exact hb

/-- A pipe behind the next piece was loaded. -/
theorem Pip.loaded {w : World} {Av : Nat → Prop} {p c room : Nat} {x : List Int} {pieces : List (List Int)} {cl : Bool} (h : Pip w Av p c room (x :: pieces) [] cl) {buf : Array Value} {s r : Nat} (hb : w.heap[c]? = some (.chan room buf false s r false))
    (g1 : buf.size = pieces.length + 1) (hps : ∀ j l, (x :: pieces)[j]? = some l → Bs w Av (buf.getD j undef) l) :
    Pip ((w.setChan c room (buf.extract 1 buf.size) false s (r + 1) false).setCell ⟨p, 1, none⟩ (buf.getD 0 undef)) Av p c room pieces x cl := by
  have hpc : c ≠ p := fun e => h.ne e.symm
  have X : Ext (fun k => k = p ∨ k = c) w ((w.setChan c room (buf.extract 1 buf.size) false s (r + 1) false).setCell ⟨p, 1, none⟩ (buf.getD 0 undef)) :=
    (ext_setChan (Ext.refl _ w) c _ _ _ _ _ _ (.inl (.inr rfl))).setCell (.inl (.inl rfl)) _
  have kb : ∀ {u m}, Bs w Av u m → Bs ((w.setChan c room (buf.extract 1 buf.size) false s (r + 1) false).setCell ⟨p, 1, none⟩ (buf.getD 0 undef)) Av u m :=
    fun hu => hu.turn X (fun k _ e => by rcases e with rfl | rfl; exact h.avp; exact h.avc) (fun _ _ a => a)
  have cell : ∀ o, o ≠ 1 → ((w.setChan c room (buf.extract 1 buf.size) false s (r + 1) false).setCell ⟨p, 1, none⟩ (buf.getD 0 undef)).cell? ⟨p, o, none⟩ = w.cell? ⟨p, o, none⟩ := fun o ho => by
    rw [World.cell?_setCell_other _ _ _ _ (by simp <;> exact fun e => ho e.symm), setChan_cell _ _ _ _ _ _ _ _ hpc]
  have fro : ∀ o, ((w.setChan c room (buf.extract 1 buf.size) false s (r + 1) false).setCell ⟨p, 1, none⟩ (buf.getD 0 undef)).frozen? ⟨p, o, none⟩ = w.frozen? ⟨p, o, none⟩ := fun o => by
    rw [World.frozen?_setCell, setChan_frozen _ _ _ _ _ _ _ _ hpc]
  have hcl := lt_of_block hb
  have hfit := h.fit
  refine ⟨(cell 0 (by omega)).trans h.c0, ⟨buf.getD 0 undef, ?_, kb (hps 0 x rfl)⟩, ?_, (cell 3 (by omega)).trans h.c3, (fro 1).trans h.f1, (fro 2).trans h.f2, (fro 3).trans h.f3,
    ⟨buf.extract 1 buf.size, s, r + 1, ?_, by simp; omega, fun j m e => ?_⟩, h.ne, h.avp, h.avc, fun m hm => h.full m (List.mem_cons_of_mem _ hm), by simp at hfit; omega⟩
  · obtain ⟨fv, c1, _⟩ := h.c1
    exact World.cell?_setCell_same' _ _ _ (by rw [setChan_cell _ _ _ _ _ _ _ _ hpc]; simp [c1])
  · rw [cell 2 (by omega), h.c2]; simp [total]
  · rw [Below.heap_setCell _ _ _ _ hpc]
    exact heap_setChan _ _ _ _ _ _ _ _ hcl
  · have := kb (hps (j + 1) m (by simpa using e))
    have hj := (List.getElem?_eq_some_iff.1 e).1
    have e2 : (buf.extract 1 buf.size).getD j undef = buf.getD (j + 1) undef := by
      simp only [Array.getD_eq_getD_getElem?, Array.getElem?_extract]
      rw [if_pos (by omega), Nat.add_comm]
    rw [e2]
    exact this
end Go.Proofs.Ytihdjneoemlddaa
