/- What next does: it takes the piece that waits longest, or tells that there is none. -/
import Derived.Test.YtihdjneoemlddaaLone
namespace Go.Proofs.Ytihdjneoemlddaa
open Go.Conc Go.RowKit

theorem setChan_block (w : World) (c cap : Nat) (buf : Array Value) (cl : Bool) (s r : Nat) (tm : Bool) {k : Nat} (h : c ≠ k) : (w.setChan c cap buf cl s r tm).heap[k]? = w.heap[k]? := by
  simp [World.setChan, Array.getElem?_setIfInBounds_ne h]
theorem setChan_cell (w : World) (c cap : Nat) (buf : Array Value) (cl : Bool) (s r : Nat) (tm : Bool) {a : Addr} (h : c ≠ a.block) : (w.setChan c cap buf cl s r tm).cell? a = w.cell? a :=
  World.cell?_of_block (setChan_block w c cap buf cl s r tm h)
theorem setChan_frozen (w : World) (c cap : Nat) (buf : Array Value) (cl : Bool) (s r : Nat) (tm : Bool) {a : Addr} (h : c ≠ a.block) : (w.setChan c cap buf cl s r tm).frozen? a = w.frozen? a :=
  World.frozen?_of_block (setChan_block w c cap buf cl s r tm h)

set_option maxHeartbeats 800000 in
theorem next_recv (p c cap : Nat) (buf : Array Value) (closed : Bool) (s r : Nat) (w : World) (fl : Option Addr) (fcap : Nat)
    (h0 : w.cell? ⟨p, 0, none⟩ = some (.chan (some c))) (h1 : w.cell? ⟨p, 1, none⟩ = some (.slice fl 0 fcap)) (hf1 : w.frozen? ⟨p, 1, none⟩ = false) (hc : w.heap[c]? = some (.chan cap buf closed s r false)) (hsome : 0 < buf.size) (hpc : p ≠ c) (q : Option Addr) (qn qc : Nat) (hv : buf.getD 0 undef = .slice q qn qc) :
    Calls Try.prog 21 #[.pointer (some ⟨p, 0, none⟩)] w fun e w' => e = .returned (.bool true) ∧ w' = (w.setChan c cap (buf.extract 1 buf.size) closed s (r + 1) false).setCell ⟨p, 1, none⟩ (.slice q qn qc) := by
  refine calls_of_loneTo fun cs => ?_
  have e : Frame.enter Try.prog 21 #[.pointer (some ⟨p, 0, none⟩)] .normal = (base 21).at ⟨#[.pointer (some ⟨p, 0, none⟩), undef, undef, undef, undef, undef, undef, undef, undef, undef, undef, undef, undef, undef, undef, undef, undef, undef, undef, undef], []⟩ [.code (Try.f21.body.getD .skip)] := by
    simp [Frame.enter, Frame.at, Try.func21, base, Try.f21]
  rw [e]
  simp only [Try.f21, Option.getD_some]
  refine LoneTo.seq (LoneTo.code ?_)
  go_wp2
  change LoneTo _ _ _ _
  refine LoneTo.seq (LoneTo.code ?_)
  go_wp2
  change LoneTo _ _ _ _
  refine LoneTo.seq (LoneTo.code ?_)
  go_wp2
  change LoneTo _ _ _ _
  refine LoneTo.seq ?_
  refine LoneTo.goes (n := 1) ?_
  s_reg
  s_stop
  refine LoneTo.step (step_lone_select_recv_buf (c := c) (z := .slice none 0 0) (cap := cap) (buf := buf) (closed := closed) (s := s) (r := r) (tm := false)
    (stepG_comm (cases := #[rcase c (.slice none 0 0)]) (blocking := false) (shape := .select) (w' := w) rfl rfl (by decide) (by simp [go_sem, execOp, rcase, Act.eval])) hc hsome) ?_
  rw [Frame.finish_at]
  have g0 := (setChan_cell w c cap (buf.extract 1 buf.size) closed s (r + 1) false (a := ⟨p, 1, none⟩) (fun h => hpc h.symm)).trans h1
  have g1 := (setChan_frozen w c cap (buf.extract 1 buf.size) closed s (r + 1) false (a := ⟨p, 1, none⟩) (fun h => hpc h.symm)).trans hf1
  generalize w.setChan c cap (buf.extract 1 buf.size) closed s (r + 1) false = w2 at *
  rw [hv]
  clear hv
  walk_nrm
  refine LoneTo.goes (n := 3) ?_
  s_op
  s_op
  s_c stepG_region_end
  s_stop
  refine LoneTo.code ?_
  go_wp2
  intro todo
  refine LoneTo.done ⟨.returned (.bool true), _, rfl, ⟨rfl, rfl⟩, rfl, rfl, rfl, rfl, _, Try.func21, by simp [results, Try.f21, Frame.at]⟩

set_option maxHeartbeats 800000 in
theorem next_none (p c cap : Nat) (s r : Nat) (w : World) (fl : Option Addr) (fcap : Nat)
    (h0 : w.cell? ⟨p, 0, none⟩ = some (.chan (some c))) (h1 : w.cell? ⟨p, 1, none⟩ = some (.slice fl 0 fcap)) (hc : w.heap[c]? = some (.chan cap #[] false s r false)) :
    Calls Try.prog 21 #[.pointer (some ⟨p, 0, none⟩)] w fun e w' => e = .returned (.bool false) ∧ w' = w := by
  refine calls_of_loneTo fun cs => ?_
  have e : Frame.enter Try.prog 21 #[.pointer (some ⟨p, 0, none⟩)] .normal = (base 21).at ⟨#[.pointer (some ⟨p, 0, none⟩), undef, undef, undef, undef, undef, undef, undef, undef, undef, undef, undef, undef, undef, undef, undef, undef, undef, undef, undef], []⟩ [.code (Try.f21.body.getD .skip)] := by
    simp [Frame.enter, Frame.at, Try.func21, base, Try.f21]
  rw [e]
  simp only [Try.f21, Option.getD_some]
  refine LoneTo.seq (LoneTo.code ?_)
  go_wp2
  change LoneTo _ _ _ _
  refine LoneTo.seq (LoneTo.code ?_)
  go_wp2
  change LoneTo _ _ _ _
  refine LoneTo.seq (LoneTo.code ?_)
  go_wp2
  change LoneTo _ _ _ _
  refine LoneTo.seq ?_
  refine LoneTo.goes (n := 1) ?_
  s_reg
  s_stop
  refine LoneTo.step (step_lone_select_default (c := c) (z := .slice none 0 0) (cap := cap) (s := s) (r := r) (tm := false)
    (stepG_comm (cases := #[rcase c (.slice none 0 0)]) (blocking := false) (shape := .select) (w' := w) rfl rfl (by decide) (by simp [go_sem, execOp, rcase, Act.eval])) hc) ?_
  rw [Frame.finish_at]
  walk_nrm
  refine LoneTo.goes (n := 3) ?_
  s_op
  s_op
  s_c stepG_region_end
  s_stop
  refine LoneTo.code ?_
  go_wp2
  intro todo
  refine LoneTo.done ⟨.returned (.bool false), _, rfl, ⟨rfl, rfl⟩, rfl, rfl, rfl, rfl, _, Try.func21, by simp [results, Try.f21, Frame.at]⟩

set_option maxHeartbeats 800000 in
theorem next_has (p : Nat) (w : World) (fl : Option Addr) (n fcap : Nat) (hn : 0 < n) (h1 : w.cell? ⟨p, 1, none⟩ = some (.slice fl n fcap)) :
    Calls Try.prog 21 #[.pointer (some ⟨p, 0, none⟩)] w fun e w' => e = .returned (.bool true) ∧ w' = w := by
  go_enter Try.func21, Try.ntmps21
  have hn' : (0 : Int) < (n : Int) := by omega
  go_wp2_with fail
  go_ret
  exact ⟨rfl, rfl⟩
end Go.Proofs.Ytihdjneoemlddaa
