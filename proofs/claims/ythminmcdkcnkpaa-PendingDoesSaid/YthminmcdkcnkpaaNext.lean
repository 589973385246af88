/- Next. -/
import Derived.Test.YthminmcdkcnkpaaOps
import Derived.Test.YthminmcdkcnkpaaTree
import Derived.OwnWalkIn
import Derived.TacticsInMore
import Derived.LoopIn
import Derived.Sort.QuietIn
namespace Go.Proofs.Ythminmcdkcnkpaa
open Go.RowKit Go.Maps
attribute [local go_sem] Oper.semAt_some
section
variable {w w' : World} {p b n : Nat} {room turns last : Int} {L : List En}

def lastOf (w : World) (p : Nat) : Int := match w.cell? ⟨p, 2, none⟩ with | some (.int _ x) => x | _ => 0
theorem Tab.lastOf (h : Tab w p b n room turns last L) : lastOf w p = last := by simp [Ythminmcdkcnkpaa.lastOf, h.c2]

theorem Tab.setLast (h : Tab w p b n room turns last L) (x : Int) : Tab (w.setCell ⟨p, 2, none⟩ (.int .u32 x)) p b n room turns x L := by
  obtain ⟨D, hm, hM⟩ := h.map
  have hlt := h.lt
  refine ⟨?_, ?_, ?_, ?_, fun j => ?_, by simpa [World.setCell] using hlt, h.ne, D, hm.setCell (fun e => h.ne e.symm) _, hM⟩
  · rw [World.cell?_setCell_other _ _ _ _ (by simp)]; exact h.c0
  · rw [World.cell?_setCell_other _ _ _ _ (by simp)]; exact h.c1
  · exact World.cell?_setCell_same _ _ _ h.c2
  · rw [World.cell?_setCell_other _ _ _ _ (by simp)]; exact h.c3
  · rw [World.frozen?_setCell]; exact h.fz j

set_option maxHeartbeats 3200000 in
theorem next_ok (h : Tab w p b n room turns last L) (hr : 0 ≤ last ∧ last < 4294967296) (hl : L.length < 998) : Calls Try.prog 16 #[.pointer (some ⟨p, 0, none⟩)] w fun e w' => e = .returned (.tuple #[.int .u32 (nx (keys L) last), .int .i64 0]) ∧ Tab w' p b n room turns (nx (keys L) last) L ∧ Ext (fun k => k = p) w w' := by
  have hf15 : Fence.wide.fn 15 := trivial
  refine (callsIn_wide (n := 1)).1 ?_
  refine callsIn_of_wp Try.func16 rfl trivial ?_ rfl
  simp only [Try.ntmps16, List.size_toArray, List.length_cons, List.length_nil, Nat.reduceAdd, Nat.reduceSub, Array.replicate_succ, Array.replicate_zero, List.push_toArray, List.append_toArray, List.nil_append, List.cons_append]
  gi_wp2_with (fail)
  gi_at_call 15
  refine (callsIn_wide.2 (none_some h)).mono ?_
  rintro e w1 ⟨rfl, hw⟩
  have hw := hw.symm
  subst hw
  gi_wp2_with (fail)
  gi_loopw [] (fun wr => ∃ x : Int, (0 ≤ x ∧ x < 4294967296) ∧ nx (keys L) x = nx (keys L) last ∧ Tab wr p b n room turns x L ∧ Ext (fun k => k = p) w wr) (fun wr => dist (keys L) 1000 (lastOf wr p))
  case atStart => exact ⟨last, hr, rfl, h, Ext.refl _ _⟩
  case round =>
    obtain ⟨x, hx, hnx, hT, hE⟩ := hrel
    have h2 := hT.c2
    have f2 := hT.fz 2
    gi_wp2_with (fail)
    have hT1 := hT.setLast (step x)
    have hE1 : Ext (fun k => k = p) w (wr.setCell ⟨p, 2, none⟩ (.int .u32 (step x))) := hE.setCell (.inl rfl) _
    have hs := step_range x
    rw [show (x + 1) % 4294967296 = step x from rfl]
    generalize wr.setCell ⟨p, 2, none⟩ (.int .u32 (step x)) = W1 at hT1 hE1 ⊢
    have h2 := hT1.c2
    have h3 := hT1.c3
    have hlook := hT1.look hs
    have hlt := hT1.lt
    have hblt := hT1.blt
    have hsn := nx_step (K := keys L) (x := x) (by simpa [keys] using hl)
    have hsf := nx_free (K := keys L) (x := x)
    have hlen1 := hT.lastOf
    generalize hv : valAt L (step x) = v at hlook
    obtain ⟨v1, v2⟩ := v
    have hcls : ∀ w' : World, Below W1.heap.size W1 w' → w'.cell? ⟨p, 2, none⟩ = some (.int .u32 (step x)) ∧ w'.cell? ⟨p, 3, none⟩ = some (.map (some b)) ∧ (Instr.lookup 49 (.map (some b)) (.int .u32 (step x)) true).run Try.prog w' = .ok (.tuple #[.agg #[.int .i64 v1, .int .i64 v2], .bool (decide (step x ∈ keys L))]) w' := fun w' hB => by
      have hE' : Ext (fun _ => False) W1 w' := Ext.of_below hB
      have hT' := hT1.keep hE' (fun h => h) (fun h => h)
      have := hT'.look hs
      rw [hv] at this
      exact ⟨hT'.c2, hT'.c3, this⟩
    refine wpIn_region_stg [.q 0 2, .q 1 2, .q 2 2, .q 3 2, .q 4 2, .q 5 2, .q 6 2, .q 7 2, .q 8 2, .q 9 2, .q 10 2, .q 11 2, .l 12, .l 13, .q 14 2] [12, 13]
      (fun _ w' => Below W1.heap.size W1 w') (by kernel_rfl) (by kernel_rfl) (Below.refl _ W1).drew ?_
    repeat (
      refine wpStg_q (v := ?_) rfl (fun _ h => by cases h) (fun _ => rfl) rfl (fun c' w' hc' hw => ?_) ?_
      rotate_left
      · (obtain ⟨x1, x2, x3⟩ := hcls w' hw; first | (go_simp; done) | (go_simp; with_reducible rfl))
      try simp only [Act.put, List.getElem_toArray, List.getElem_cons_zero, List.getElem_cons_succ, List.setIfInBounds_toArray, List.set_cons_succ, List.set_cons_zero])
    refine wpStg_l rfl ?_
    gi_wp2
    have hB1 : Below W1.heap.size W1 (W1.alloc (.cells #[.int .i64 0, .int .i64 0] 55)).drew := ((Below.refl _ W1).alloc (Nat.le_refl _) _).drew
    refine ⟨hB1, ?_⟩
    clear hcls hlook
    refine wpStg_l rfl ?_
    gi_wp2
    have hB2 : Below W1.heap.size W1 (W1.alloc (.cells #[.int .i64 v1, .int .i64 v2] 55)).drew := ((Below.refl _ W1).alloc (Nat.le_refl _) _).drew
    refine ⟨hB2, ?_⟩
    have hE2 : Ext (fun _ => False) W1 (W1.alloc (.cells #[.int .i64 v1, .int .i64 v2] 55)).drew := Ext.of_below hB2
    clear hB1 hB2 h3 h2
    generalize (W1.alloc (.cells #[.int .i64 v1, .int .i64 v2] 55)).drew = W2 at hE2 ⊢
    have hT2 := hT1.keep hE2 (fun h => h) (fun h => h)
    have hE3 : Ext (fun k => k = p) w W2 := hE1.trans (hE2.mono (fun _ _ h => h.elim))
    have h2 := hT2.c2
    have hlen2 := hT2.lastOf
    repeat (
      refine wpStg_q (v := ?_) rfl (fun _ h => by cases h) (fun _ => rfl) rfl (fun c' w' hc' hw => ?_) ?_
      rotate_left
      · (first | (go_simp; done) | (go_simp; with_reducible rfl))
      try simp only [Act.put, List.getElem_toArray, List.getElem_cons_zero, List.getElem_cons_succ, List.setIfInBounds_toArray, List.set_cons_succ, List.set_cons_zero])
    refine wpStg_nil ?_
    clear hT1 hE1 hE2 hlt hblt
    by_cases hm : step x ∈ keys L
    · have hfr : free (keys L) (step x) = false := by simp [free, hm]
      obtain ⟨hn1, hn2⟩ := hsn hfr
      simp only [hm, decide_true]
      clear hsf hsn
      gi_wp2
      go_roundw
      · exact ⟨step x, hs, hn1.symm.trans hnx, hT2, hE3⟩
      · rw [hlen1, hlen2]; exact hn2
    · by_cases h0 : step x = 0
      · have hfr : free (keys L) (step x) = false := by simp [free, h0]
        obtain ⟨hn1, hn2⟩ := hsn hfr
        simp only [hm, decide_false]
        rw [h0] at h2
        clear hsf hsn
        gi_wp2
        go_roundw
        · exact ⟨step x, hs, hn1.symm.trans hnx, hT2, hE3⟩
        · rw [hlen1, hlen2]; exact hn2
      · have hfr : free (keys L) (step x) = true := by simp [free, h0, hm]
        have hn1 := hsf hfr
        simp only [hm, decide_false]
        clear hsf hsn
        have h0' : ¬ step x = 0 := h0
        generalize step x = y at *
        gi_wp2
        go_ret2
        rw [← hnx, hn1]
        exact ⟨rfl, hT2, hE3⟩
end
end Go.Proofs.Ythminmcdkcnkpaa
