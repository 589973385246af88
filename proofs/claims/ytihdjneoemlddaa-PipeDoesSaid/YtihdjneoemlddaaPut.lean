/- What New and Put do in memory. -/
import Derived.Test.YtihdjneoemlddaaPipe
namespace Go.Proofs.Ytihdjneoemlddaa
open Go.RowKit Go.Conc

theorem bytes30 : ∃ i, Try.prog.info? 30 = some i ∧ i.bytes = 24 := by
  have h : (Try.prog.info? 30).map (·.bytes) = some 24 := by kernel_rfl
  obtain ⟨i, hi, hb⟩ := Option.map_eq_some_iff.1 h
  exact ⟨i, hi, hb⟩

set_option maxHeartbeats 800000 in
theorem new_ok (room : Nat) (Av : Nat → Prop) (w : World) (h1 : 1 ≤ room) (h2 : room ≤ 1024) (hav : Av (w.heap.size + 1) ∧ Av w.heap.size) :
    Calls Try.prog 7 #[.int .i64 room] w fun e w' => e = .returned (.pointer (some ⟨w.heap.size + 1, 0, none⟩)) ∧ Pip w' Av (w.heap.size + 1) w.heap.size room [] [] false ∧ Ext (fun _ => False) w w' := by
  obtain ⟨i, hi, hb⟩ := bytes30
  have hmk : ∀ w : World, (Instr.makeChan 43 (.int .i64 room)).run Try.prog w = .ok (.chan (some w.heap.size)) (w.alloc (.chan room #[] false 0 0 false)) := fun w => by
    simpa using run_makeChan (P := Try.prog) (w := w) Try.underlying43 hi .i64 room (by omega) (by rw [hb]; omega)
  go_enter Try.func7, Try.ntmps7
  go_wp2
  go_ret
  refine ⟨rfl, ?_, ((Ext.refl _ w).alloc _).alloc _⟩
  have hsz : w.heap.size + 1 = (w.alloc (.chan room #[] false 0 0 false)).heap.size := by simp
  refine ⟨?_, ⟨.slice none 0 0, ?_, ⟨none, 0, rfl, Nat.le_refl _, fun h => absurd rfl h⟩⟩, ?_, ?_, ?_, ?_, ?_, ⟨#[], 0, 0, ?_, rfl, fun j l e => by simp at e⟩, by omega, hav.1, hav.2, fun l h => by simp at h, by simp⟩
  · rw [World.cell?_alloc_at _ _ _ _ hsz]; rfl
  · rw [World.cell?_alloc_at _ _ _ _ hsz]; rfl
  · rw [World.cell?_alloc_at _ _ _ _ hsz]; rfl
  · rw [World.cell?_alloc_at _ _ _ _ hsz]; rfl
  · rw [World.frozen?_alloc_at _ _ _ _ hsz]
  · rw [World.frozen?_alloc_at _ _ _ _ hsz]
  · rw [World.frozen?_alloc_at _ _ _ _ hsz]
  · rw [Below.heap_alloc _ _ _ (by simp)]
    exact heap_alloc_new w _

set_option maxHeartbeats 800000 in
theorem new_bad (room : Int) (w : World) (h : room < 1 ∨ 1024 < room) :
    Calls Try.prog 7 #[.int .i64 room] w fun e w' => e = .returned (.pointer none) ∧ w' = w := by
  go_enter Try.func7, Try.ntmps7
  go_wp2
  all_goals (go_ret; exact ⟨rfl, rfl⟩)

theorem total_snoc (ls : List (List Int)) (l : List Int) : total (ls ++ [l]) = total ls + l.length := by
  induction ls with
  | nil => simp [total]
  | cons x ls ih => simp only [List.cons_append, total, ih]; omega
theorem ext_setChan {S : Nat → Prop} {a w : World} (h : Ext S a w) (c cap : Nat) (buf : Array Value) (cl : Bool) (s r : Nat) (tm : Bool) (hc : S c ∨ a.heap.size ≤ c) : Ext S a (w.setChan c cap buf cl s r tm) :=
  ⟨h.os, h.tape, h.output, by rw [size_setChan]; exact h.size, fun k hk hs => by
    rw [setChan_block _ _ _ _ _ _ _ _ (by rintro rfl; rcases hc with hc | hc; exact hs hc; omega)]; exact h.block k hk hs⟩
theorem ext_of_below {w w' : World} (h : Below w.heap.size w w') : Ext (fun _ => False) w w' := ⟨h.os, h.tape, h.output, h.size, fun k hk _ => h.block k hk⟩

/-- Behind a send, and the count. -/
theorem Pip.put {w : World} {Av : Nat → Prop} {p c room : Nat} {pieces : List (List Int)} {first : List Int} (h : Pip w Av p c room pieces first false) {buf : Array Value} {s r : Nat} (hb : w.heap[c]? = some (.chan room buf false s r false))
    {v : Value} {l : List Int} (hv : Bs w Av v l) (hl : l ≠ []) (hroom : pieces.length < room) (h1 : buf.size = pieces.length) (hps : ∀ j l, pieces[j]? = some l → Bs w Av (buf.getD j undef) l) :
    Pip ((w.setChan c room (buf.push v) false (s + 1) r false).setCell ⟨p, 2, none⟩ (.int .i64 ((first.length + total (pieces ++ [l]) : Nat) : Int))) Av p c room (pieces ++ [l]) first false := by
  have hcl := lt_of_block hb
  have hpc : c ≠ p := fun e => h.ne e.symm
  have X : Ext (fun k => k = p ∨ k = c) w ((w.setChan c room (buf.push v) false (s + 1) r false).setCell ⟨p, 2, none⟩ (.int .i64 ((first.length + total (pieces ++ [l]) : Nat) : Int))) :=
    (ext_setChan (Ext.refl _ w) c _ _ _ _ _ _ (.inl (.inr rfl))).setCell (.inl (.inl rfl)) _
  have kb : ∀ {u m}, Bs w Av u m → Bs ((w.setChan c room (buf.push v) false (s + 1) r false).setCell ⟨p, 2, none⟩ (.int .i64 ((first.length + total (pieces ++ [l]) : Nat) : Int))) Av u m :=
    fun hu => hu.turn X (fun k _ e => by rcases e with rfl | rfl; exact h.avp; exact h.avc) (fun _ _ a => a)
  have cell : ∀ o, o ≠ 2 → ((w.setChan c room (buf.push v) false (s + 1) r false).setCell ⟨p, 2, none⟩ (.int .i64 ((first.length + total (pieces ++ [l]) : Nat) : Int))).cell? ⟨p, o, none⟩ = w.cell? ⟨p, o, none⟩ := fun o ho => by
    rw [World.cell?_setCell_other _ _ _ _ (by simp <;> exact fun e => ho e.symm), setChan_cell _ _ _ _ _ _ _ _ hpc]
  have fro : ∀ o, ((w.setChan c room (buf.push v) false (s + 1) r false).setCell ⟨p, 2, none⟩ (.int .i64 ((first.length + total (pieces ++ [l]) : Nat) : Int))).frozen? ⟨p, o, none⟩ = w.frozen? ⟨p, o, none⟩ := fun o => by
    rw [World.frozen?_setCell, setChan_frozen _ _ _ _ _ _ _ _ hpc]
  obtain ⟨fv, c1, bs⟩ := h.c1
  refine ⟨(cell 0 (by omega)).trans h.c0, ⟨fv, (cell 1 (by omega)).trans c1, kb bs⟩, ?_, (cell 3 (by omega)).trans h.c3, (fro 1).trans h.f1, (fro 2).trans h.f2, (fro 3).trans h.f3,
    ⟨buf.push v, s + 1, r, ?_, by simp [h1], fun j m e => ?_⟩, h.ne, h.avp, h.avc, fun m hm => ?_, by simp; omega⟩
  · exact World.cell?_setCell_same' _ _ _ (by rw [setChan_cell _ _ _ _ _ _ _ _ hpc]; simp [h.c2])
  · rw [Below.heap_setCell _ _ _ _ hpc]
    exact heap_setChan _ _ _ _ _ _ _ _ hcl
  · by_cases hj : j < pieces.length
    · rw [List.getElem?_append_left hj] at e
      have : (buf.push v).getD j undef = buf.getD j undef := by simp [Array.getD_eq_getD_getElem?, Array.getElem?_push, show j ≠ buf.size by omega]
      rw [this]
      exact kb (hps j m e)
    · have hjl := (List.getElem?_eq_some_iff.1 e).1
      have hj' : j = pieces.length := by simp at hjl; omega
      subst hj'
      simp at e
      subst e
      have : (buf.push v).getD pieces.length undef = v := by rw [← h1]; simp [Array.getD_eq_getD_getElem?]
      rw [this]
      exact kb hv
  · rcases List.mem_append.1 hm with hm | hm
    · exact h.full m hm
    · simp at hm; subst hm; exact hl

set_option maxHeartbeats 1600000 in
/-- A piece that is not empty is put into a pipe with room. -/
theorem put_ok {w : World} {Av : Nat → Prop} {p c room : Nat} {pieces : List (List Int)} {first : List Int} (h : Pip w Av p c room pieces first false) (v : Value) (l : List Int) (Av' : Nat → Prop) (hv : Bs w Av' v l) (hl : l ≠ [])
    (hroom : pieces.length < room) (hln : l.length ≤ 1000000) (htot : first.length + total pieces ≤ 1000000000) (hlt : ∀ k, Av k → k < w.heap.size) :
    Calls Try.prog 9 #[.pointer (some ⟨p, 0, none⟩), v] w fun e w' => e = .returned (.bool true) ∧ Pip w' Av p c room (pieces ++ [l]) first false ∧ Ext (fun k => k = p ∨ k = c) w w' := by
  refine calls_of_loneTo fun cs => ?_
  have e : Frame.enter Try.prog 9 #[.pointer (some ⟨p, 0, none⟩), v] .normal = (base 9).at ⟨#[.pointer (some ⟨p, 0, none⟩), v, undef, undef, undef, undef, undef, undef, undef, undef, undef, undef, undef, undef, undef, undef, undef, undef, undef, undef, undef, undef, undef, undef, undef, undef, undef, undef, undef, undef, undef, undef, undef, undef, undef, undef, undef, undef, undef, undef, undef, undef, undef, undef, undef, undef, undef], []⟩ [.code (Try.f9.body.getD .skip)] := by
    simp [Frame.enter, Frame.at, Try.func9, base, Try.f9]
  rw [e]
  simp only [Try.f9, Option.getD_some]
  have h0 := h.c0
  have h3 := h.c3
  obtain ⟨buf, s, r, hb, h1, hps⟩ := h.ch
  have hlen : ∀ n, (Builtin.len_ #[43] 3 #[.chan (some c)]).run Try.prog (w.drewN n) = .ok (goInt buf.size) (w.drewN n) := fun n => run_len_chan (P := Try.prog) (w := w.drewN n) 43 3 Try.underlying43 hb
  have hcap : ∀ n, (Builtin.cap_ #[43] 3 #[.chan (some c)]).run Try.prog (w.drewN n) = .ok (goInt room) (w.drewN n) := fun n => run_cap_chan (P := Try.prog) (w := w.drewN n) 43 3 Try.underlying43 hb
  have hne : ((buf.size : Int) == (room : Int)) = false := by simp; omega
  obtain ⟨pv, cv, rfl, hcv, hv'⟩ := hv
  have hl0 : ((l.length : Int) == 0) = false := by simp [hl]
  refine LoneTo.seq (LoneTo.code ?_)
  go_wp2
  change LoneTo _ _ _ _
  refine LoneTo.seq (LoneTo.code ?_)
  go_wp2_with fail
  go_quiet (first | (go_at_call 19; exact Calls.quiet_of_same (none_some p c _ (by simpa using h0))))
  go_wp2_with fail
  change LoneTo _ _ _ _
  refine LoneTo.seq (LoneTo.code ?_)
  go_wp2
  change LoneTo _ _ _ _
  clear hlen hcap
  refine LoneTo.seq (LoneTo.code ?_)
  have hq := h.keep ((Ext.refl (fun _ => False) w).drewN nq) (fun _ _ h => h.elim) (fun _ _ h => h) h.avp h.avc
  have hvq : Bs (w.drewN nq) Av' (.slice pv l.length cv) l := Bs.keep ⟨pv, cv, rfl, hcv, hv'⟩ ((Ext.refl (fun _ => False) w).drewN nq) (fun _ _ h => h.elim)
  have hX := (Ext.refl (fun k => k = p ∨ k = c) w).drewN nq
  have hltq : ∀ k, Av k → k < (w.drewN nq).heap.size := hlt
  clear h0 h3 hb
  generalize w.drewN nq = w1 at *
  have g0 := hq.c0
  go_wp2_with fail
  go_at_call 20
  refine (clone_some _ l Av' _ hvq hl hln).mono ?_
  rintro e w2 ⟨b, cp, rfl, hbw, hbs, hB⟩
  go_wp2
  change LoneTo _ _ _ _
  refine LoneTo.seq ?_
  refine LoneTo.goes (n := 1) ?_
  s_reg
  s_stop
  have hp2 := hq.keep (ext_of_below hB) (fun _ _ h => h.elim) (fun _ _ h => h) hq.avp hq.avc
  have hbs2 : Bs w2 Av (.slice (some ⟨b, 0, none⟩) l.length cp) l := hbs.mono (fun k _ a => hltq k a)
  have X2 := hX.trans ((ext_of_below hB).mono (fun _ _ h => h.elim))
  clear hq hB hbs hX hvq g0 h1 hps
  obtain ⟨buf, s, r, hb, h1, hps⟩ := hp2.ch
  refine LoneTo.step (step_lone_select_send_room (c := c) (v := .slice (some ⟨b, 0, none⟩) l.length cp) (z' := .slice none 0 0) (cap := room) (buf := buf) (s := s) (r := r) (tm := false)
    (stepG_comm (cases := #[scase c (.slice (some ⟨b, 0, none⟩) l.length cp) (.slice none 0 0)]) (blocking := false) (shape := .select) (w' := w2) rfl rfl (by decide) (by simp [go_sem, execOp, scase, Act.eval])) hb (by omega)) ?_
  rw [Frame.finish_at]
  have hput := hp2.put hb hbs2 hl hroom h1 hps
  have X3 := ext_setChan X2 c room (buf.push (.slice (some ⟨b, 0, none⟩) l.length cp)) false (s + 1) r false (.inl (.inr rfl))
  have g2 := (setChan_cell w2 c room (buf.push (.slice (some ⟨b, 0, none⟩) l.length cp)) false (s + 1) r false (a := ⟨p, 2, none⟩) (fun e => hp2.ne e.symm)).trans hp2.c2
  have gf := (setChan_frozen w2 c room (buf.push (.slice (some ⟨b, 0, none⟩) l.length cp)) false (s + 1) r false (a := ⟨p, 2, none⟩) (fun e => hp2.ne e.symm)).trans hp2.f2
  generalize w2.setChan c room (buf.push (.slice (some ⟨b, 0, none⟩) l.length cp)) false (s + 1) r false = w3 at *
  walk_nrm
  refine LoneTo.goes (n := 3) ?_
  s_op
  s_op
  s_c stepG_region_end
  s_stop
  refine LoneTo.code ?_
  rw [total_snoc, ← Nat.add_assoc] at hput
  generalize first.length + total pieces = n at *
  go_wp2
  intro todo
  refine LoneTo.done ⟨.returned (.bool true), _, rfl, ⟨rfl, ?_, X3.setCell (p := ⟨p, 2, none⟩) (.inl (.inl rfl)) _⟩, rfl, rfl, rfl, rfl, _, Try.func9, by simp [results, Try.f9, Frame.at]⟩
  simpa using hput
end Go.Proofs.Ytihdjneoemlddaa
