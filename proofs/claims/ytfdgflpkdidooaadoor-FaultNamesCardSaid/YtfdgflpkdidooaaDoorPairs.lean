/- 'FaultPairs' gives true. -/
import Derived.Test.YtfdgflpkdidooaaDoorSure
namespace Go.Proofs.YtfdgflpkdidooaaDoor
open Go.RowKit

set_option maxHeartbeats 3200000 in
theorem pairs_ok (t code e0 : Int) (hb : -9223372036854775808 ≤ e0) (hb2 : e0 ≤ 9223372036854775807) (w : World) (h : Lain w) : Calls Tryd.prog 3 #[.int .i64 t, .int .i64 code, .int .i64 e0] w fun e w' => e = .returned (.bool true) ∧ Grew w w' := by
  go_enter Tryd.func3, Tryd.ntmps3
  go_wp2_with fail
  go_at_call 6
  refine (make_eq t code w).mono ?_
  rintro e w1 ⟨rfl, rfl⟩
  go_wp2_with fail
  go_at_call 7
  refine (refMake_eq t code w1).mono ?_
  rintro e w2 ⟨rfl, hX2⟩
  go_wp2_with fail
  go_at_call 8
  refine (pair_eq e0 hb hb2 _).mono ?_
  rintro e w3 ⟨rfl, rfl⟩
  go_wp2_with fail
  go_at_call 9
  refine (refPair_eq e0 _).mono ?_
  rintro e w4 ⟨rfl, hX4⟩
  replace hX2 := hX2.trans hX4
  clear hX4
  generalize mk t code = a at *
  generalize mkOk t code = b at *
  generalize prT e0 = p1 at *
  generalize prC e0 = p2 at *
  generalize prOk e0 = p3 at *
  go_wp2_with fail
  go_at_call 10
  refine (codes_eq t _).mono ?_
  rintro e w5 ⟨rfl, rfl⟩
  go_wp2_with fail
  go_at_call 11
  refine (refCodes_eq t _).mono ?_
  rintro e w6 ⟨rfl, hX6⟩
  replace hX2 := hX2.trans hX6
  clear hX6
  go_wp2_with fail
  go_at_call 12
  refine (sure_ok _ (h.keep hX2)).mono ?_
  rintro e w7 ⟨rfl, hX7⟩
  go_wp2
  go_ret
  exact ⟨rfl, hX2.trans hX7⟩
end Go.Proofs.YtfdgflpkdidooaaDoor
