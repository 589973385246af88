/- sure: the fixed calls. -/
import Derived.Test.YthminmcdkcnkpaaSort
import Derived.Test.YthminmcdkcnkpaaOpen2
namespace Go.Proofs.Ythminmcdkcnkpaa
open Go.RowKit Go.Maps

theorem nx1 : nx (keys []) 4294967294 = 4294967295 := by rw [nx_free (by decide)]; rfl
theorem nx2 : nx (keys [(4294967295, 18, 0)]) 4294967295 = 1 := by
  rw [(nx_step (by decide) (by decide)).1, nx_free (by decide)]; rfl

set_option maxHeartbeats 3200000 in
theorem sure_ok (w : World) : Calls Try.prog 5 #[] w fun e w' => e = .returned (.bool true) ∧ Below w.heap.size w w' := by
  go_enter Try.func5, Try.ntmps5
  go_wp2_with fail
  go_at_call 6
  refine (new_ok 2 4294967294 (by decide) w).mono ?_
  rintro e w1 ⟨rfl, hT, hB⟩
  have hE : Ext (fun k => w.heap.size ≤ k) w w1 := Ext.of_below hB
  have hp : w.heap.size ≤ w.heap.size + 1 := by omega
  have hb : w.heap.size ≤ w.heap.size := Nat.le_refl _
  clear hB
  generalize w.heap.size + 1 = p at hT hp ⊢
  generalize hbb : w.heap.size = b at hT hb
  rw [hbb] at hp hE
  have h0 := open_ok hT (by decide) (k := 18) (by decide) (by decide) (by decide) (by decide) (by decide)
  rw [nx1] at h0
  go_wp2_with fail
  go_at_call 7
  refine h0.mono ?_
  rintro e w2 ⟨rfl, hT, hX⟩
  replace hE := hE.trans (hX.mono (fun k _ h => by rcases h with h | h <;> omega))
  clear hX h0
  have h0 := open_ok hT (by decide) (k := 2) (by decide) (by decide) (by decide) (by decide) (by decide)
  simp only [List.nil_append] at h0
  rw [nx2] at h0
  go_wp2_with fail
  go_at_call 7
  refine h0.mono ?_
  rintro e w3 ⟨rfl, hT, hX⟩
  replace hE := hE.trans (hX.mono (fun k _ h => by rcases h with h | h <;> omega))
  clear hX h0
  simp only [List.cons_append, List.nil_append] at hT
  go_wp2_with fail
  go_at_call 7
  refine (open_full hT (k := 2) (by decide) (by decide)).mono ?_
  rintro e w4 ⟨rfl, hX⟩
  replace hT := hT.keep hX (fun h => h) (fun h => h)
  replace hE := hE.trans (hX.mono (fun k _ h => h.elim))
  clear hX
  have h0 := close_ok hT (x := 4294967295) (by decide) 3
  rw [show closeCode [(4294967295, 18, 0), (1, 2, 0 + 1)] 4294967295 3 = 10001 by decide, show closeL [(4294967295, 18, 0), (1, 2, 0 + 1)] 4294967295 3 = [(4294967295, 18, 0), (1, 2, 1)] by decide] at h0
  go_wp2_with fail
  go_at_call 8
  refine h0.mono ?_
  rintro e w5 ⟨rfl, hT, hX⟩
  replace hE := hE.trans (hX.mono (fun k _ h => by omega))
  clear hX h0
  have h0 := close_ok hT (x := 4294967295) (by decide) 19
  rw [show closeCode [(4294967295, 18, 0), (1, 2, 1)] 4294967295 19 = 0 by decide, show closeL [(4294967295, 18, 0), (1, 2, 1)] 4294967295 19 = [(1, 2, 1)] by decide] at h0
  go_wp2_with fail
  go_at_call 8
  refine h0.mono ?_
  rintro e w6 ⟨rfl, hT, hX⟩
  replace hE := hE.trans (hX.mono (fun k _ h => by omega))
  clear hX h0
  have h0 := close_ok hT (x := 4294967295) (by decide) 19
  rw [show closeCode [(1, 2, 1)] 4294967295 19 = 10004 by decide, show closeL [(1, 2, 1)] 4294967295 19 = [(1, 2, 1)] by decide] at h0
  go_wp2_with fail
  go_at_call 8
  refine h0.mono ?_
  rintro e w7 ⟨rfl, hT, hX⟩
  replace hE := hE.trans (hX.mono (fun k _ h => by omega))
  clear hX h0
  have h0 := kind_ok hT (x := 1) (by decide)
  rw [show valAt [(1, 2, 1)] 1 = (2, 1) by decide, show decide ((1 : Int) ∈ keys [(1, 2, 1)]) = true by decide] at h0
  go_wp2_with fail
  go_at_call 12
  refine h0.mono ?_
  rintro e w8 ⟨rfl, hX⟩
  replace hT := hT.keep hX (fun h => h) (fun h => h)
  replace hE := hE.trans (hX.mono (fun k _ h => h.elim))
  clear hX h0
  have h0 := list_ok hT (by decide) (List.pairwise_singleton _ _)
  go_wp2_with fail
  go_at_call 9
  refine h0.mono ?_
  rintro e w9 ⟨v, rfl, hrow, hX⟩
  obtain ⟨q, c, rfl⟩ := row_slice hrow
  replace hE := hE.trans (hX.mono (fun k _ h => h.elim))
  clear hX h0 hrow
  simp only [List.length_cons, List.length_nil]
  go_wp2_with fail
  go_at_call 6
  refine (new_none 0 0 (by decide) _).mono ?_
  rintro e w10 ⟨rfl, hw⟩
  have hw := hw.symm
  subst hw
  go_wp2
  go_ret
  exact ⟨rfl, hE.below (by omega) (fun k h1 h2 => by omega)⟩
end Go.Proofs.Ythminmcdkcnkpaa
