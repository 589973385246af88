/- What 'FaultNames' computes. -/
import Derived.Test.YtfdgflpkdidooaaDoorRefRead
namespace Go.Proofs.YtfdgflpkdidooaaDoor
open Go.RowKit

set_option maxHeartbeats 3200000 in
set_option maxRecDepth 20000 in
theorem texts_ok (e0 : Int) (s : ByteArray) (hb : -9223372036854775808 ≤ e0) (hb2 : e0 ≤ 9223372036854775807) (w : World) (h : Full w) :
    Calls Tryd.prog 4 #[.int .i64 e0, .string s] w fun e w' => e = .returned (.bool true) ∧ Grew w w' := by
  by_cases hs : s.size ≤ 100
  · have hs' : (s.size : Int) ≤ 100 := by omega
    go_enter Tryd.func4, Tryd.ntmps4
    go_wp2_with fail
    go_at_call 13
    refine (read_all s hs w h).mono ?_
    rintro e w1 ⟨⟨n, b, rfl, hr⟩, hX⟩
    have h1 := h.keep hX
    clear h
    go_wp2_with fail
    go_at_call 14
    refine (refRead_any s w1).mono ?_
    rintro e w2 ⟨⟨n', b', rfl, hr'⟩, hX2⟩
    have h2 := h1.keep hX2
    replace hX := hX.trans hX2
    obtain ⟨rfl, rfl⟩ := hr.same hr'
    clear h1 hX2 hr hr' hs
    go_wp2_with fail
    go_at_call 15
    refine (name_any e0 hb hb2 w2 h2.toLain).mono ?_
    rintro e w3 ⟨rfl, hX3⟩
    have h3 := h2.keep hX3
    replace hX := hX.trans hX3
    clear h2 hX3
    go_wp2_with fail
    go_at_call 16
    refine (refName_any e0 w3).mono ?_
    rintro e w4 ⟨rfl, hX4⟩
    have h4 := h3.keep hX4
    replace hX := hX.trans hX4
    clear h3 hX4
    generalize nm e0 = q at *
    have hq : (q == q) = true := by simp
    have hbb : (b == b) = true := by simp
    have hnn : (n == n) = true := by simp
    go_wp2_with fail
    go_at_call 12
    refine (sure_ok w4 h4.toLain).mono ?_
    rintro e w5 ⟨rfl, hX5⟩
    go_wp2
    go_ret
    exact ⟨rfl, hX.trans hX5⟩
  · have hs' : (100 : Int) < (s.size : Int) := by omega
    go_enter Tryd.func4, Tryd.ntmps4
    go_wp2_with fail
    go_at_call 12
    refine (sure_ok w h.toLain).mono ?_
    rintro e w5 ⟨rfl, hX5⟩
    go_wp2
    go_ret
    exact ⟨rfl, hX5⟩
end Go.Proofs.YtfdgflpkdidooaaDoor
