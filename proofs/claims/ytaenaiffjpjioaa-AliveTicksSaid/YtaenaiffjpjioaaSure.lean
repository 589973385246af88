/- The sure part of the statements is true and leaves old memory as it was. -/
import Derived.Test.YtaenaiffjpjioaaNew
namespace Go.Proofs.Ytaenaiffjpjioaa
open Go.RowKit
namespace Alive

theorem tick_is (b : Nat) (ask dead since s' r : Int) (w : World) (h : Is w b ask dead since) (ha : 0 < ask) (hs : since ≤ dead) (h0s : 0 ≤ since) (hb : dead ≤ 100000) (e1 : step dead since = s') (e2 : how ask dead s' = r) :
    Calls Try.prog 9 #[.pointer (some ⟨b, 0, none⟩)] w fun e w' => e = .returned (.int .i64 r) ∧ Is w' b ask dead s' ∧ Ext (fun k => k = b) w w' := by
  subst e1; subst e2
  exact tick_any b ask dead since w h ha hs h0s hb

set_option maxHeartbeats 800000 in
theorem sure_any (w : World) :
    Calls Try.prog 6 #[] w fun e w' => e = .returned (.bool true) ∧ Below w.heap.size w w' := by
  go_enter Try.func6, Try.ntmps6
  go_wp2_with fail
  go_at_call 7
  refine (new_ok 2 5 _ (by decide) (by decide) (by decide) (by decide)).mono ?_
  rintro e w1 ⟨rfl, h1, x1⟩
  go_wp2_with fail
  go_at_call 9
  refine (tick_is w.heap.size 2 5 0 1 0 _ h1 (by decide) (by decide) (by decide) (by decide) (by decide) (by decide)).mono ?_
  rintro e w2 ⟨rfl, h2, x2⟩
  go_wp2_with fail
  go_at_call 9
  refine (tick_is w.heap.size 2 5 1 2 1 _ h2 (by decide) (by decide) (by decide) (by decide) (by decide) (by decide)).mono ?_
  rintro e w3 ⟨rfl, h3, x3⟩
  go_wp2_with fail
  go_at_call 9
  refine (tick_is w.heap.size 2 5 2 3 0 _ h3 (by decide) (by decide) (by decide) (by decide) (by decide) (by decide)).mono ?_
  rintro e w4 ⟨rfl, h4, x4⟩
  go_wp2_with fail
  go_at_call 9
  refine (tick_is w.heap.size 2 5 3 4 1 _ h4 (by decide) (by decide) (by decide) (by decide) (by decide) (by decide)).mono ?_
  rintro e w5 ⟨rfl, h5, x5⟩
  go_wp2_with fail
  go_at_call 9
  refine (tick_is w.heap.size 2 5 4 5 2 _ h5 (by decide) (by decide) (by decide) (by decide) (by decide) (by decide)).mono ?_
  rintro e w6 ⟨rfl, h6, x6⟩
  go_wp2_with fail
  go_at_call 8
  refine (heard_any w.heap.size 2 5 5 _ h6 (by decide)).mono ?_
  rintro e w7 ⟨rfl, h7, x7⟩
  go_wp2_with fail
  go_at_call 10
  refine (over_some w.heap.size 2 5 5 _ h7 (by decide)).mono ?_
  rintro e w8 ⟨rfl, n8, rfl⟩
  go_wp2_with fail
  go_at_call 11
  refine (since_some w.heap.size 2 5 5 _ (h7.drewN n8) (by decide)).mono ?_
  rintro e w8 ⟨rfl, rfl⟩
  go_wp2_with fail
  go_at_call 7
  refine (new_bad 2 2 _ (by decide)).mono ?_
  rintro e w8 ⟨rfl, rfl⟩
  go_wp2_with fail
  go_at_call 9
  refine (tick_nil _).mono ?_
  rintro e w8 ⟨rfl, n9, rfl⟩
  go_wp2_with fail
  go_at_call 10
  refine (over_nil _).mono ?_
  rintro e w8 ⟨rfl, n10, rfl⟩
  go_wp2_with fail
  go_at_call 11
  refine (since_nil _).mono ?_
  rintro e w8 ⟨rfl, rfl⟩
  go_wp2
  go_ret
  refine ⟨rfl, ?_⟩
  have x1' : Ext (fun k => k = w.heap.size) w w1 := x1.mono (fun _ _ h => h.elim)
  have y := x1'.trans <| x2.trans (x3.trans (x4.trans (x5.trans (x6.trans x7))))
  exact (y.drewN _).below (Nat.le_refl _) (fun k hk e => by omega)
end Alive
end Go.Proofs.Ytaenaiffjpjioaa
