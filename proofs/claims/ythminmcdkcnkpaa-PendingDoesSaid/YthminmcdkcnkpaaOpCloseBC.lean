/- op at close, the other ways. -/
import Derived.Test.YthminmcdkcnkpaaOpClose
namespace Go.Proofs.Ythminmcdkcnkpaa
open Go.RowKit Go.Maps
attribute [local go_sem] Oper.semAt_some

set_option maxRecDepth 40000 in
set_option maxHeartbeats 6400000 in
theorem op_closeB {B0 B : Nat} {w0 w : World} {p b k : Nat} {room turns last : Int} {L : List En} {v : Value} (hS : St B0 B w0 w p b k room turns last L v) (hk : k ≤ 500) (kind near x : Int) (hx : 0 ≤ x ∧ x < 4294967296) (hn0 : 0 ≤ near) (hn : (L.length : Int) ≤ near) :
    Calls Try.prog 10 #[.pointer (some ⟨p, 0, none⟩), .agg #[.int .i64 room, .int .u32 last, v], .agg #[.int .i64 1, .int .i64 kind, .int .i64 near, .int .u32 x]] w fun e w' =>
      ∃ (p' b' : Nat) (turns' last' : Int) (L' : List En) (v' : Value), e = .returned (.tuple #[.pointer (some ⟨p', 0, none⟩), .agg #[.int .i64 room, .int .u32 last', v'], .bool true]) ∧ St B0 B w0 w' p' b' (k + 1) room turns' last' L' v' := by
  obtain ⟨hTh, hlow⟩ := th_start w room last v 1 kind near x
  have hplt := hS.tab.lt
  have hblt := hS.tab.blt
  have hln := hS.len
  have hlw := hS.low
  have hex := hS.ext.size
  obtain ⟨q, cap, ev, _⟩ := id hS.rl
  subst ev
  have hf22 : Fence.wide.fn 22 := trivial
  have hf8 : Fence.wide.fn 8 := trivial
  have o2 : (((w.alloc (.cells #[.int .i64 room, .int .u32 last, .slice q L.length cap] 39)).alloc (.cells #[.int .i64 1, .int .i64 kind, .int .i64 near, .int .u32 x] 29)).alloc (.cells #[.int .i64 0, .int .u32 0, .slice none 0 0] 39)).cell? ⟨w.heap.size + 1, 2, none⟩ = some (.int .i64 near) := by
    rw [World.cell?_alloc_lt _ _ _ (by simp)]
    rw [World.cell?_alloc_at _ _ _ _ (by simp)]
    rfl
  have o0 := hTh.o0
  have t0 := hTh.tb.c0
  have t1 := hTh.tb.c1
  have t2 := hTh.tb.c2
  refine (callsIn_wide (n := 1)).1 ?_
  refine callsIn_of_wp Try.func10 rfl trivial ?_ rfl
  simp only [Try.ntmps10, List.size_toArray, List.length_cons, List.length_nil, Nat.reduceAdd, Nat.reduceSub, Array.replicate_succ, Array.replicate_zero, List.push_toArray, List.append_toArray, List.nil_append, List.cons_append]
  have o3 := hTh.o3
  have o1 := hTh.o1
  gi_wp2_with (fail)
  generalize ((w.alloc (.cells #[.int .i64 room, .int .u32 last, .slice q L.length cap] 39)).alloc (.cells #[.int .i64 1, .int .i64 kind, .int .i64 near, .int .u32 x] 29)).alloc (.cells #[.int .i64 0, .int .u32 0, .slice none 0 0] 39) = W at *
  have hWlt := hTh.rs.lt
  gi_at_call 22
  refine (callsIn_wide.2 (refClose_ok (hS.rl.own hlow) room last x kind (by omega) hS.nd)).mono ?_
  rintro e W2 ⟨v', rfl, hR2, hB2⟩
  obtain ⟨q3, c3, rfl, _⟩ := id hR2
  have hB02 := hlow.trans (hB2.mono hlow.size)
  have hT2 := hTh.keep (Ext.of_below (S := fun _ => False) hB2) (fun _ h => h.elim)
  have hb3 : Bx (W2.alloc (.cells #[.int .i64 room, .int .u32 last, .slice q3 (closeL L x kind).length c3] 39)) W2.heap.size room last (.slice q3 (closeL L x kind).length c3) := Bx.of_obj (MapKept.heap_alloc W2 _).1
  have hB3 : Below W2.heap.size W2 (W2.alloc (.cells #[.int .i64 room, .int .u32 last, .slice q3 (closeL L x kind).length c3] 39)) := (Below.refl _ W2).alloc (Nat.le_refl _) _
  have hT3 := hT2.keep (Ext.of_below (S := fun _ => False) hB3) (fun _ h => h.elim)
  have hS3 := (hS.below hB02).below hB3
  clear hTh o0 o1 o2 o3 t0 t1 t2 hT2
  gi_wp2_with (fail)
  have hlt3 := hT3.rs.lt
  have hTd := hS3.tab.keep ((Ext.refl (fun _ => False) _).drew) (fun h => h) (fun h => h)
  have hR3 : Rl (W2.alloc (.cells #[.int .i64 room, .int .u32 last, .slice q3 (closeL L x kind).length c3] 39)) (fun j => ((j = p ∨ j = b ∨ j = B) ∨ w.heap.size ≤ j) ∧ j < W.heap.size) (.slice q3 (closeL L x kind).length c3) (closeL L x kind) := hR2.keep (Ext.of_below (S := fun _ => False) hB3) (fun _ _ h => h.elim)
  have hWs : w.heap.size + 1 + 1 < W.heap.size := hWlt
  have hW2s := hB2.size
  generalize W2.alloc (.cells #[.int .i64 room, .int .u32 last, .slice q3 (closeL L x kind).length c3] 39) = W3 at *
  have hcls : ∀ w' : World, Ext (fun k => k = b ∨ k = w.heap.size + 1 + 1) W3 w' → w'.cell? ⟨W2.heap.size, 0, none⟩ = some (.int .i64 room) ∧ w'.cell? ⟨W2.heap.size, 1, none⟩ = some (.int .u32 last) ∧ w'.cell? ⟨W2.heap.size, 2, none⟩ = some (.slice q3 (closeL L x kind).length c3) ∧ w'.cell? ⟨w.heap.size + 1, 3, none⟩ = some (.int .u32 x) ∧ w'.cell? ⟨w.heap.size + 1, 1, none⟩ = some (.int .i64 kind) := fun w' hw => by
    have := hb3.keep hw (by omega)
    exact ⟨this.c0, this.c1, this.c2, (hw.cell (p := ⟨w.heap.size + 1, 3, none⟩) (show w.heap.size + 1 < W3.heap.size by omega) (show ¬ (w.heap.size + 1 = b ∨ w.heap.size + 1 = w.heap.size + 1 + 1) by omega)).trans hT3.o3, (hw.cell (p := ⟨w.heap.size + 1, 1, none⟩) (show w.heap.size + 1 < W3.heap.size by omega) (show ¬ (w.heap.size + 1 = b ∨ w.heap.size + 1 = w.heap.size + 1 + 1) by omega)).trans hT3.o1⟩
  refine wpIn_region_stg [.q 0 2, .q 1 2, .q 2 2, .q 3 2, .q 4 2, .q 5 2, .q 6 2, .q 8 2, .l 7, .q 9 2, .q 10 2, .l 11, .q 12 2] [7, 11]
    (fun _ w' => Ext (fun k => k = b ∨ k = w.heap.size + 1 + 1) W3 w') (by kernel_rfl) (by kernel_rfl) (Ext.refl _ _).drew ?_
  repeat (
    refine wpStg_q (v := ?_) rfl (fun _ h => by cases h) (fun _ => rfl) rfl (fun c' w' hc' hw => ?_) ?_
    rotate_left
    · (obtain ⟨z1, z2, z3, z4, z5⟩ := hcls w' hw; first | (go_simp; done) | (go_simp; with_reducible rfl))
    try simp only [Act.put, List.getElem_toArray, List.getElem_cons_zero, List.getElem_cons_succ, List.setIfInBounds_toArray, List.set_cons_succ, List.set_cons_zero])
  refine wpStg_l rfl ?_
  gi_wp2_with (gi_at_call 8; refine (callsIn_wide.2 (close_ok hTd hx kind)).mono ?_; rintro e W4 ⟨rfl, hTab, hX⟩)
  have hsub : (closeL L x kind).Sublist L := by
    unfold closeL
    split
    · split
      · exact List.filter_sublist
      · exact List.Sublist.refl _
    · exact List.Sublist.refl _
  have hE4 : Ext (fun k => k = b) W3 W4 := ((Ext.refl _ W3).drew).trans hX
  have hR4 : Rl W4 (fun j => ((j = p ∨ j = b ∨ j = B) ∨ w.heap.size ≤ j) ∧ j < W.heap.size) (.slice q3 (closeL L x kind).length c3) (closeL L x kind) := hR3.keep hE4 (fun j _ hj => by omega)
  have hS4 : St B0 B w0 W4 p b k room turns last (closeL L x kind) (.slice q3 (closeL L x kind).length c3) := ⟨hTab, hR4.mono (fun j _ hj => by omega), List.Pairwise.sublist hsub hS.ord, fun e he => hS.tl e (hsub.subset he), fun e he => hS.wf e (hsub.subset he), hS.t0, hS.lr, Nat.le_trans hsub.length_le hS.len, hS3.ext.trans (hE4.mono (fun j _ hj => by have := hS.low; omega)), hS.low⟩
  have hT4 := hT3.keep hE4 (fun k e => .inl (by omega))
  have hext0 := hS.ext.size
  refine ⟨hE4.mono (fun _ _ h => .inl h), ?_⟩
  have hmem : (closeCode L x kind == closeCode L x kind) = true := by simp
  have r0 := hT4.rs.c0
  have r1 := hT4.rs.c1
  have r2 := hT4.rs.c2
  have u0 := hT4.rs.fz 0
  have u1 := hT4.rs.fz 1
  have u2 := hT4.rs.fz 2
  clear hcls hTd hTab hX hS3 hT3 hb3 hB3 hR3 hS hlow hB02 hB2 hR2
  generalize closeCode L x kind = inL at *
  repeat (
    refine wpStg_q (v := ?_) rfl (fun _ h => by cases h) (fun _ => rfl) rfl (fun c' w' hc' hw => ?_) ?_
    rotate_left
    · (first | (go_simp; done) | (go_simp; with_reducible rfl))
    try simp only [Act.put, List.getElem_toArray, List.getElem_cons_zero, List.getElem_cons_succ, List.setIfInBounds_toArray, List.set_cons_succ, List.set_cons_zero])
  refine wpStg_l rfl ?_
  gi_wp2
  have hE5 : Ext (fun k => k = w.heap.size + 1 + 1) W4 (((W4.setCell ⟨w.heap.size + 1 + 1, 0, none⟩ (.int .i64 room)).setCell ⟨w.heap.size + 1 + 1, 1, none⟩ (.int .u32 last)).setCell ⟨w.heap.size + 1 + 1, 2, none⟩ (.slice q3 (closeL L x kind).length c3)) := ext_set3 _ _ _
  have hrs := hT4.rs.set3 room last (.slice q3 (closeL L x kind).length c3)
  refine ⟨(hE4.mono (fun _ _ h => .inl h)).trans (hE5.mono (fun _ _ h => .inr h)), ?_⟩
  clear r0 r1 r2 u0 u1 u2
  generalize ((W4.setCell ⟨w.heap.size + 1 + 1, 0, none⟩ (.int .i64 room)).setCell ⟨w.heap.size + 1 + 1, 1, none⟩ (.int .u32 last)).setCell ⟨w.heap.size + 1 + 1, 2, none⟩ (.slice q3 (closeL L x kind).length c3) = W5 at hrs hE5 ⊢
  have hS5 := hS4.turn hR4 hE5 (fun j hj => by omega) ⟨by omega, by omega⟩ (fun j hj => by omega) (fun j hj => by omega)
  repeat (
    refine wpStg_q (v := ?_) rfl (fun _ h => by cases h) (fun _ => rfl) rfl (fun c' w' hc' hw => ?_) ?_
    rotate_left
    · (first | (go_simp; done) | (go_simp; with_reducible rfl))
    try simp only [Act.put, List.getElem_toArray, List.getElem_cons_zero, List.getElem_cons_succ, List.setIfInBounds_toArray, List.set_cons_succ, List.set_cons_zero])
  refine wpStg_nil ?_
  have r0 := hrs.c0
  have r1 := hrs.c1
  have r2 := hrs.c2
  gi_wp2
  refine bodyPost_ret (v := .tuple #[.pointer (some ⟨p, 0, none⟩), .agg #[.int .i64 room, .int .u32 last, .slice q3 (closeL L x kind).length c3], .bool true]) (by rw [results_tmp_cell_tmp rfl]; go_simp) rfl ?_
  exact ⟨p, b, turns, last, closeL L x kind, _, rfl, hS5.more (by omega)⟩

set_option maxRecDepth 40000 in
set_option maxHeartbeats 6400000 in
theorem op_closeC {B0 B : Nat} {w0 w : World} {p b k : Nat} {room turns last : Int} {L : List En} {v : Value} (hS : St B0 B w0 w p b k room turns last L v) (hk : k ≤ 500) (kind x : Int) (j : Nat) (e0 : En) (he0 : L[j]? = some e0) (hx : 0 ≤ x ∧ x < 4294967296) :
    Calls Try.prog 10 #[.pointer (some ⟨p, 0, none⟩), .agg #[.int .i64 room, .int .u32 last, v], .agg #[.int .i64 1, .int .i64 kind, (.int .i64 j), .int .u32 x]] w fun e w' =>
      ∃ (p' b' : Nat) (turns' last' : Int) (L' : List En) (v' : Value), e = .returned (.tuple #[.pointer (some ⟨p', 0, none⟩), .agg #[.int .i64 room, .int .u32 last', v'], .bool true]) ∧ St B0 B w0 w' p' b' (k + 1) room turns' last' L' v' := by
  obtain ⟨hTh, hlow⟩ := th_start w room last v 1 kind j x
  have hplt := hS.tab.lt
  have hblt := hS.tab.blt
  have hln := hS.len
  have hlw := hS.low
  have hex := hS.ext.size
  obtain ⟨q, cap, ev, _⟩ := id hS.rl
  subst ev
  have hf22 : Fence.wide.fn 22 := trivial
  have hf8 : Fence.wide.fn 8 := trivial
  have o2 : (((w.alloc (.cells #[.int .i64 room, .int .u32 last, .slice q L.length cap] 39)).alloc (.cells #[.int .i64 1, .int .i64 kind, (.int .i64 j), .int .u32 x] 29)).alloc (.cells #[.int .i64 0, .int .u32 0, .slice none 0 0] 39)).cell? ⟨w.heap.size + 1, 2, none⟩ = some (.int .i64 j) := by
    rw [World.cell?_alloc_lt _ _ _ (by simp)]
    rw [World.cell?_alloc_at _ _ _ _ (by simp)]
    rfl
  have o0 := hTh.o0
  have t0 := hTh.tb.c0
  have t1 := hTh.tb.c1
  have t2 := hTh.tb.c2
  refine (callsIn_wide (n := 1)).1 ?_
  refine callsIn_of_wp Try.func10 rfl trivial ?_ rfl
  simp only [Try.ntmps10, List.size_toArray, List.length_cons, List.length_nil, Nat.reduceAdd, Nat.reduceSub, Array.replicate_succ, Array.replicate_zero, List.push_toArray, List.append_toArray, List.nil_append, List.cons_append]
  have o3 := hTh.o3
  have o1 := hTh.o1
  have hjl : j < L.length := (List.getElem?_eq_some_iff.1 he0).1
  have hja : (j : Int) < (L.length : Int) := by omega
  obtain ⟨bq, off, rfl, hbq1, hbq2, hbq3⟩ : ∃ bq off, q = some ⟨bq, off, none⟩ ∧ ¬ (bq = p ∨ bq = b ∨ bq = B) ∧ bq < w.heap.size ∧ ∀ j e, L[j]? = some e → w.cell? ⟨bq, off + j * 2, none⟩ = some (.int .u32 e.1) ∧ w.cell? ⟨bq, off + j * 2 + 1, none⟩ = some (.int .i64 e.2.1) := by
    rename_i hh
    exact hh.2 (by intro e; simp [e] at hjl)
  have tc := (hlow.cell (p := ⟨bq, off + j * 2, none⟩) hbq2).trans (hbq3 j e0 he0).1
  have o3' := hTh.o3
  have fo := hTh.of
  have fo3 := fo 3
  have hxe := hS.wf e0 (List.mem_of_getElem? he0)
  clear fo hbq3
  gi_wp2_with (fail)
  clear hTh hlow tc fo3
  obtain ⟨hTh, hlow⟩ := th_start w room last (.slice (some ⟨bq, off, none⟩) L.length cap) 1 kind j e0.1
  clear hx
  have hx := hxe
  generalize ((w.alloc (.cells #[.int .i64 room, .int .u32 last, .slice (some ⟨bq, off, none⟩) L.length cap] 39)).alloc (.cells #[.int .i64 1, .int .i64 kind, (.int .i64 j), .int .u32 e0.1] 29)).alloc (.cells #[.int .i64 0, .int .u32 0, .slice none 0 0] 39) = W at *
  have hWlt := hTh.rs.lt
  gi_at_call 22
  refine (callsIn_wide.2 (refClose_ok (hS.rl.own hlow) room last e0.1 kind (by omega) hS.nd)).mono ?_
  rintro e W2 ⟨v', rfl, hR2, hB2⟩
  obtain ⟨q3, c3, rfl, _⟩ := id hR2
  have hB02 := hlow.trans (hB2.mono hlow.size)
  have hT2 := hTh.keep (Ext.of_below (S := fun _ => False) hB2) (fun _ h => h.elim)
  have hb3 : Bx (W2.alloc (.cells #[.int .i64 room, .int .u32 last, .slice q3 (closeL L e0.1 kind).length c3] 39)) W2.heap.size room last (.slice q3 (closeL L e0.1 kind).length c3) := Bx.of_obj (MapKept.heap_alloc W2 _).1
  have hB3 : Below W2.heap.size W2 (W2.alloc (.cells #[.int .i64 room, .int .u32 last, .slice q3 (closeL L e0.1 kind).length c3] 39)) := (Below.refl _ W2).alloc (Nat.le_refl _) _
  have hT3 := hT2.keep (Ext.of_below (S := fun _ => False) hB3) (fun _ h => h.elim)
  have hS3 := (hS.below hB02).below hB3
  clear hTh o0 o1 o2 o3 t0 t1 t2 hT2
  gi_wp2_with (fail)
  have hlt3 := hT3.rs.lt
  have hTd := hS3.tab.keep ((Ext.refl (fun _ => False) _).drew) (fun h => h) (fun h => h)
  have hR3 : Rl (W2.alloc (.cells #[.int .i64 room, .int .u32 last, .slice q3 (closeL L e0.1 kind).length c3] 39)) (fun j => ((j = p ∨ j = b ∨ j = B) ∨ w.heap.size ≤ j) ∧ j < W.heap.size) (.slice q3 (closeL L e0.1 kind).length c3) (closeL L e0.1 kind) := hR2.keep (Ext.of_below (S := fun _ => False) hB3) (fun _ _ h => h.elim)
  have hWs : w.heap.size + 1 + 1 < W.heap.size := hWlt
  have hW2s := hB2.size
  generalize W2.alloc (.cells #[.int .i64 room, .int .u32 last, .slice q3 (closeL L e0.1 kind).length c3] 39) = W3 at *
  have hcls : ∀ w' : World, Ext (fun k => k = b ∨ k = w.heap.size + 1 + 1) W3 w' → w'.cell? ⟨W2.heap.size, 0, none⟩ = some (.int .i64 room) ∧ w'.cell? ⟨W2.heap.size, 1, none⟩ = some (.int .u32 last) ∧ w'.cell? ⟨W2.heap.size, 2, none⟩ = some (.slice q3 (closeL L e0.1 kind).length c3) ∧ w'.cell? ⟨w.heap.size + 1, 3, none⟩ = some (.int .u32 e0.1) ∧ w'.cell? ⟨w.heap.size + 1, 1, none⟩ = some (.int .i64 kind) := fun w' hw => by
    have := hb3.keep hw (by omega)
    exact ⟨this.c0, this.c1, this.c2, (hw.cell (p := ⟨w.heap.size + 1, 3, none⟩) (show w.heap.size + 1 < W3.heap.size by omega) (show ¬ (w.heap.size + 1 = b ∨ w.heap.size + 1 = w.heap.size + 1 + 1) by omega)).trans hT3.o3, (hw.cell (p := ⟨w.heap.size + 1, 1, none⟩) (show w.heap.size + 1 < W3.heap.size by omega) (show ¬ (w.heap.size + 1 = b ∨ w.heap.size + 1 = w.heap.size + 1 + 1) by omega)).trans hT3.o1⟩
  refine wpIn_region_stg [.q 0 2, .q 1 2, .q 2 2, .q 3 2, .q 4 2, .q 5 2, .q 6 2, .q 8 2, .l 7, .q 9 2, .q 10 2, .l 11, .q 12 2] [7, 11]
    (fun _ w' => Ext (fun k => k = b ∨ k = w.heap.size + 1 + 1) W3 w') (by kernel_rfl) (by kernel_rfl) (Ext.refl _ _).drew ?_
  repeat (
    refine wpStg_q (v := ?_) rfl (fun _ h => by cases h) (fun _ => rfl) rfl (fun c' w' hc' hw => ?_) ?_
    rotate_left
    · (obtain ⟨z1, z2, z3, z4, z5⟩ := hcls w' hw; first | (go_simp; done) | (go_simp; with_reducible rfl))
    try simp only [Act.put, List.getElem_toArray, List.getElem_cons_zero, List.getElem_cons_succ, List.setIfInBounds_toArray, List.set_cons_succ, List.set_cons_zero])
  refine wpStg_l rfl ?_
  gi_wp2_with (gi_at_call 8; refine (callsIn_wide.2 (close_ok hTd hx kind)).mono ?_; rintro e W4 ⟨rfl, hTab, hX⟩)
  have hsub : (closeL L e0.1 kind).Sublist L := by
    unfold closeL
    split
    · split
      · exact List.filter_sublist
      · exact List.Sublist.refl _
    · exact List.Sublist.refl _
  have hE4 : Ext (fun k => k = b) W3 W4 := ((Ext.refl _ W3).drew).trans hX
  have hR4 : Rl W4 (fun j => ((j = p ∨ j = b ∨ j = B) ∨ w.heap.size ≤ j) ∧ j < W.heap.size) (.slice q3 (closeL L e0.1 kind).length c3) (closeL L e0.1 kind) := hR3.keep hE4 (fun j _ hj => by omega)
  have hS4 : St B0 B w0 W4 p b k room turns last (closeL L e0.1 kind) (.slice q3 (closeL L e0.1 kind).length c3) := ⟨hTab, hR4.mono (fun j _ hj => by omega), List.Pairwise.sublist hsub hS.ord, fun e he => hS.tl e (hsub.subset he), fun e he => hS.wf e (hsub.subset he), hS.t0, hS.lr, Nat.le_trans hsub.length_le hS.len, hS3.ext.trans (hE4.mono (fun j _ hj => by have := hS.low; omega)), hS.low⟩
  have hT4 := hT3.keep hE4 (fun k e => .inl (by omega))
  have hext0 := hS.ext.size
  refine ⟨hE4.mono (fun _ _ h => .inl h), ?_⟩
  have hmem : (closeCode L e0.1 kind == closeCode L e0.1 kind) = true := by simp
  have r0 := hT4.rs.c0
  have r1 := hT4.rs.c1
  have r2 := hT4.rs.c2
  have u0 := hT4.rs.fz 0
  have u1 := hT4.rs.fz 1
  have u2 := hT4.rs.fz 2
  clear hcls hTd hTab hX hS3 hT3 hb3 hB3 hR3 hS hlow hB02 hB2 hR2
  generalize closeCode L e0.1 kind = inL at *
  repeat (
    refine wpStg_q (v := ?_) rfl (fun _ h => by cases h) (fun _ => rfl) rfl (fun c' w' hc' hw => ?_) ?_
    rotate_left
    · (first | (go_simp; done) | (go_simp; with_reducible rfl))
    try simp only [Act.put, List.getElem_toArray, List.getElem_cons_zero, List.getElem_cons_succ, List.setIfInBounds_toArray, List.set_cons_succ, List.set_cons_zero])
  refine wpStg_l rfl ?_
  gi_wp2
  have hE5 : Ext (fun k => k = w.heap.size + 1 + 1) W4 (((W4.setCell ⟨w.heap.size + 1 + 1, 0, none⟩ (.int .i64 room)).setCell ⟨w.heap.size + 1 + 1, 1, none⟩ (.int .u32 last)).setCell ⟨w.heap.size + 1 + 1, 2, none⟩ (.slice q3 (closeL L e0.1 kind).length c3)) := ext_set3 _ _ _
  have hrs := hT4.rs.set3 room last (.slice q3 (closeL L e0.1 kind).length c3)
  refine ⟨(hE4.mono (fun _ _ h => .inl h)).trans (hE5.mono (fun _ _ h => .inr h)), ?_⟩
  clear r0 r1 r2 u0 u1 u2
  generalize ((W4.setCell ⟨w.heap.size + 1 + 1, 0, none⟩ (.int .i64 room)).setCell ⟨w.heap.size + 1 + 1, 1, none⟩ (.int .u32 last)).setCell ⟨w.heap.size + 1 + 1, 2, none⟩ (.slice q3 (closeL L e0.1 kind).length c3) = W5 at hrs hE5 ⊢
  have hS5 := hS4.turn hR4 hE5 (fun j hj => by omega) ⟨by omega, by omega⟩ (fun j hj => by omega) (fun j hj => by omega)
  repeat (
    refine wpStg_q (v := ?_) rfl (fun _ h => by cases h) (fun _ => rfl) rfl (fun c' w' hc' hw => ?_) ?_
    rotate_left
    · (first | (go_simp; done) | (go_simp; with_reducible rfl))
    try simp only [Act.put, List.getElem_toArray, List.getElem_cons_zero, List.getElem_cons_succ, List.setIfInBounds_toArray, List.set_cons_succ, List.set_cons_zero])
  refine wpStg_nil ?_
  have r0 := hrs.c0
  have r1 := hrs.c1
  have r2 := hrs.c2
  gi_wp2
  refine bodyPost_ret (v := .tuple #[.pointer (some ⟨p, 0, none⟩), .agg #[.int .i64 room, .int .u32 last, .slice q3 (closeL L e0.1 kind).length c3], .bool true]) (by rw [results_tmp_cell_tmp rfl]; go_simp) rfl ?_
  exact ⟨p, b, turns, last, closeL L e0.1 kind, _, rfl, hS5.more (by omega)⟩
end Go.Proofs.Ythminmcdkcnkpaa
