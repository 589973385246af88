/- What Put does where it puts nothing. -/
import Derived.Test.YtihdjneoemlddaaPut
namespace Go.Proofs.Ytihdjneoemlddaa
open Go.RowKit Go.Conc

set_option maxHeartbeats 1600000 in
theorem put_closed {w : World} {Av : Nat → Prop} {p c room : Nat} {pieces : List (List Int)} {first : List Int} (h : Pip w Av p c room pieces first true) (v : Value) :
    Calls Try.prog 9 #[.pointer (some ⟨p, 0, none⟩), v] w fun e w' => e = .returned (.bool false) ∧ ∃ n, w' = w.drewN n := by
  have h0 := h.c0
  have h3 := h.c3
  go_enter Try.func9, Try.ntmps9
  go_wp2_with fail
  go_quiet (first | (go_at_call 19; exact Calls.quiet_of_same (none_some p c _ (by simpa using h0))))
  go_wp2
  go_ret
  exact ⟨rfl, _, rfl⟩

set_option maxHeartbeats 1600000 in
theorem put_nil (v : Value) (w : World) :
    Calls Try.prog 9 #[.pointer none, v] w fun e w' => e = .returned (.bool false) ∧ ∃ n, w' = w.drewN n := by
  go_enter Try.func9, Try.ntmps9
  go_wp2_with fail
  go_quiet (first | (go_at_call 19; exact Calls.quiet_of_same (none_nil _)))
  go_wp2
  go_ret
  exact ⟨rfl, _, rfl⟩

set_option maxHeartbeats 1600000 in
theorem put_full {w : World} {Av : Nat → Prop} {p c room : Nat} {pieces : List (List Int)} {first : List Int} (h : Pip w Av p c room pieces first false) (v : Value) (hroom : pieces.length = room) :
    Calls Try.prog 9 #[.pointer (some ⟨p, 0, none⟩), v] w fun e w' => e = .returned (.bool false) ∧ ∃ n, w' = w.drewN n := by
  have h0 := h.c0
  have h3 := h.c3
  obtain ⟨buf, s, r, hb, h1, hps⟩ := h.ch
  have hlen : ∀ n, (Builtin.len_ #[43] 3 #[.chan (some c)]).run Try.prog (w.drewN n) = .ok (goInt buf.size) (w.drewN n) := fun n => run_len_chan (P := Try.prog) (w := w.drewN n) 43 3 Try.underlying43 hb
  have hcap : ∀ n, (Builtin.cap_ #[43] 3 #[.chan (some c)]).run Try.prog (w.drewN n) = .ok (goInt room) (w.drewN n) := fun n => run_cap_chan (P := Try.prog) (w := w.drewN n) 43 3 Try.underlying43 hb
  have hne : ((buf.size : Int) == (room : Int)) = true := by simp; omega
  go_enter Try.func9, Try.ntmps9
  go_wp2_with fail
  go_quiet (first | (go_at_call 19; exact Calls.quiet_of_same (none_some p c _ (by simpa using h0))))
  go_wp2
  go_ret
  exact ⟨rfl, _, rfl⟩

set_option maxHeartbeats 1600000 in
theorem put_empty {w : World} {Av : Nat → Prop} {p c room : Nat} {pieces : List (List Int)} {first : List Int} (h : Pip w Av p c room pieces first false) (q : Option Addr) (cp : Nat) (hroom : pieces.length < room) :
    Calls Try.prog 9 #[.pointer (some ⟨p, 0, none⟩), .slice q 0 cp] w fun e w' => e = .returned (.bool true) ∧ ∃ n, w' = w.drewN n := by
  have h0 := h.c0
  have h3 := h.c3
  obtain ⟨buf, s, r, hb, h1, hps⟩ := h.ch
  have hlen : ∀ n, (Builtin.len_ #[43] 3 #[.chan (some c)]).run Try.prog (w.drewN n) = .ok (goInt buf.size) (w.drewN n) := fun n => run_len_chan (P := Try.prog) (w := w.drewN n) 43 3 Try.underlying43 hb
  have hcap : ∀ n, (Builtin.cap_ #[43] 3 #[.chan (some c)]).run Try.prog (w.drewN n) = .ok (goInt room) (w.drewN n) := fun n => run_cap_chan (P := Try.prog) (w := w.drewN n) 43 3 Try.underlying43 hb
  have hne : ((buf.size : Int) == (room : Int)) = false := by simp; omega
  go_enter Try.func9, Try.ntmps9
  go_wp2_with fail
  go_quiet (first | (go_at_call 19; exact Calls.quiet_of_same (none_some p c _ (by simpa using h0))))
  go_wp2
  go_ret
  exact ⟨rfl, _, rfl⟩
end Go.Proofs.Ytihdjneoemlddaa
