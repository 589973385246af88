/- The document's Same, where the lists are alike. -/
import Derived.Test.YthminmcdkcnkpaaRefOpen
import Derived.Test.YthminmcdkcnkpaaNext
namespace Go.Proofs.Ythminmcdkcnkpaa
open Go.RowKit Go.Maps
attribute [local go_sem] Oper.semAt_some
section
variable {w w' : World} {Av Av' : Nat → Prop} {v u : Value} {L : List En}

theorem row_cells {base m : Nat} {xs : List Value} (h : w.ownsRow base 22 1 v m xs) (hm : 0 < m) : ∃ g cap, v = .slice (some ⟨g, 0, none⟩) m cap ∧ m ≤ cap ∧ g < w.heap.size ∧ ∀ j y, xs[j]? = some y → w.cell? ⟨g, j, none⟩ = some y := by
  obtain ⟨h0, ⟨_, h1⟩ | ⟨g, cap, cur, rfl, hg, hb, hc, hcm, hs, ht⟩⟩ := h
  · omega
  · refine ⟨g, cap, rfl, hc, lt_of_block hb, fun j y hy => ?_⟩
    have hjl := (List.getElem?_eq_some_iff.1 hy).1
    rw [h0] at hjl
    rw [← ht, List.getElem?_take_of_lt hjl] at hy
    simp only [World.cell?, hb]
    simpa using hy

set_option maxRecDepth 20000 in
set_option maxHeartbeats 3200000 in
theorem same_ok {base : Nat} (hrow : w.ownsRow base 22 1 u L.length ((keys L).map (Value.int .u32))) (h : Rl w Av v L) (room last : Int) (hl : L.length ≤ 100000) : Calls Try.prog 11 #[u, .agg #[.int .i64 room, .int .u32 last, v]] w fun e w' => e = .returned (.bool true) ∧ Below w.heap.size w w' := by
  obtain ⟨q, cap, rfl, hcp, h⟩ := h
  obtain ⟨q2, cap2, rfl⟩ := row_sl hrow
  have hb : Bx (w.alloc (.cells #[.int .i64 room, .int .u32 last, .slice q L.length cap] 39)) w.heap.size room last (.slice q L.length cap) := Bx.of_obj (MapKept.heap_alloc w _).1
  have hB : Below w.heap.size w (w.alloc (.cells #[.int .i64 room, .int .u32 last, .slice q L.length cap] 39)) := (Below.refl _ w).alloc (Nat.le_refl _) _
  refine (callsIn_wide (n := 1)).1 ?_
  refine callsIn_of_wp Try.func11 rfl trivial ?_ rfl
  simp only [Try.ntmps11, List.size_toArray, List.length_cons, List.length_nil, Nat.reduceAdd, Nat.reduceSub, Array.replicate_succ, Array.replicate_zero, List.push_toArray, List.append_toArray, List.nil_append, List.cons_append]
  have c2 := hb.c2
  gi_wp2_with (fail)
  generalize w.alloc (.cells #[.int .i64 room, .int .u32 last, .slice q L.length cap] 39) = W at hb hB c2 ⊢
  gi_loopw [5] (fun i wr => ∃ k : Nat, k ≤ L.length ∧ i = .int .i64 k ∧ Below W.heap.size W wr) (fun i _ => (L.length - intOf i).toNat)
  case atStart => exact ⟨0, by omega, rfl, Below.refl _ _⟩
  case round =>
    obtain ⟨k, hk, rfl, hBr⟩ := hrel
    by_cases hkn : k < L.length
    · obtain ⟨b, off, rfl, _, g2, g⟩ := h (by intro e; simp [e] at hkn)
      obtain ⟨e, he⟩ : ∃ e, L[k]? = some e := ⟨_, List.getElem?_eq_getElem hkn⟩
      obtain ⟨g', cap', ev, hc', hg', hcells⟩ := row_cells hrow (by omega)
      cases ev
      have hka : (k : Int) < (L.length : Int) := by omega
      have hBw := hB.trans (hBr.mono hB.size)
      have hcls : ∀ w' : World, Below wr.heap.size wr w' → w'.cell? ⟨w.heap.size, 2, none⟩ = some (.slice (some ⟨b, off, none⟩) L.length cap) ∧ w'.cell? ⟨b, off + k * 2, none⟩ = some (.int .u32 e.1) ∧ w'.cell? ⟨g', k, none⟩ = some (.int .u32 e.1) := fun w' hw' => by
        have h1 : Below w.heap.size w w' := hBw.trans (hw'.mono hBw.size)
        have h2 : Below W.heap.size W w' := hBr.trans (hw'.mono hBr.size)
        exact ⟨(h2.cell (p := ⟨w.heap.size, 2, none⟩) hb.lt).trans c2, (h1.cell (p := ⟨b, off + k * 2, none⟩) g2).trans (g k e he).1, (h1.cell (p := ⟨g', k, none⟩) hg').trans (hcells k _ (by simp [keys, he]))⟩
      clear hcells g h c2
      gi_wp2_with (fail)
      refine wpIn_region_stg [.q 0 0, .q 1 0, .q 2 0, .q 3 0, .q 4 0, .q 5 0, .q 6 0, .q 7 0, .q 8 0, .q 9 0, .q 10 0] []
        (fun _ w' => Below wr.heap.size wr w') (by kernel_rfl) (by kernel_rfl) (Below.refl _ wr).drew ?_
      repeat (
        refine wpStg_q (v := ?_) rfl (fun _ h => by cases h) (fun _ => rfl) rfl (fun c' w' hc' hw => ?_) ?_
        rotate_left
        · (obtain ⟨z1, z2, z3⟩ := hcls w' hw; first | (go_simp; done) | (go_simp; with_reducible rfl))
        try simp only [Act.put, List.getElem_toArray, List.getElem_cons_zero, List.getElem_cons_succ, List.setIfInBounds_toArray, List.set_cons_succ, List.set_cons_zero])
      refine wpStg_nil ?_
      have hB2 := hBr.drew
      generalize wr.drew = W2 at hB2 ⊢
      gi_wp2
      go_roundw
      · exact ⟨k + 1, by omega, by go_num, hB2⟩
      · simp [intOf]; omega
    · have hkl : k = L.length := by omega
      subst hkl
      gi_wp2
      go_ret
      exact ⟨rfl, hB.trans (hBr.mono hB.size)⟩
end
end Go.Proofs.Ythminmcdkcnkpaa
