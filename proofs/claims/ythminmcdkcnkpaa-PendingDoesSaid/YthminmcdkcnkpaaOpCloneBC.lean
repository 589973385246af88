/- op at clone, the other ways. -/
import Derived.Test.YthminmcdkcnkpaaOpClone
namespace Go.Proofs.Ythminmcdkcnkpaa
open Go.RowKit Go.Maps
attribute [local go_sem] Oper.semAt_some

set_option maxRecDepth 40000 in
set_option maxHeartbeats 6400000 in
theorem op_cloneB {B0 B : Nat} {w0 w : World} {p b k : Nat} {room turns last : Int} {L : List En} {v : Value} (hS : St B0 B w0 w p b k room turns last L v) (hk : k ≤ 500) (d kind near x : Int) (hd0 : (d == 0) = false) (hd1 : (d == 1) = false) (hd2 : (d == 2) = false) (hd3 : (d == 3) = false) (hx : 0 ≤ x ∧ x < 4294967296) (hn0 : 0 ≤ near) (hn : (L.length : Int) ≤ near) :
    Calls Try.prog 10 #[.pointer (some ⟨p, 0, none⟩), .agg #[.int .i64 room, .int .u32 last, v], .agg #[.int .i64 d, .int .i64 kind, .int .i64 near, .int .u32 x]] w fun e w' =>
      ∃ (p' b' : Nat) (turns' last' : Int) (L' : List En) (v' : Value), e = .returned (.tuple #[.pointer (some ⟨p', 0, none⟩), .agg #[.int .i64 room, .int .u32 last', v'], .bool true]) ∧ St B0 B w0 w' p' b' (k + 1) room turns' last' L' v' := by
  obtain ⟨hTh, hlow⟩ := th_start w room last v d kind near x
  have hplt := hS.tab.lt
  have hblt := hS.tab.blt
  have hln := hS.len
  have hlw := hS.low
  have hex := hS.ext.size
  obtain ⟨q, cap, ev, _⟩ := id hS.rl
  subst ev
  have hf25 : Fence.wide.fn 25 := trivial
  have hf17 : Fence.wide.fn 17 := trivial
  have hf7 : Fence.wide.fn 7 := trivial
  obtain ⟨turns', last', y, c, L', hO⟩ := opn_ex room turns last L 2
  have o2 : (((w.alloc (.cells #[.int .i64 room, .int .u32 last, .slice q L.length cap] 39)).alloc (.cells #[.int .i64 d, .int .i64 kind, .int .i64 near, .int .u32 x] 29)).alloc (.cells #[.int .i64 0, .int .u32 0, .slice none 0 0] 39)).cell? ⟨w.heap.size + 1, 2, none⟩ = some (.int .i64 near) := by
    rw [World.cell?_alloc_lt _ _ _ (by simp)]
    rw [World.cell?_alloc_at _ _ _ _ (by simp)]
    rfl
  have o0 := hTh.o0
  have t0 := hTh.tb.c0
  have t1 := hTh.tb.c1
  have t2 := hTh.tb.c2
  refine (callsIn_wide (n := 1)).1 ?_
  refine callsIn_of_wp Try.func10 rfl trivial ?_ rfl
  simp only [Try.ntmps10, List.size_toArray, List.length_cons, List.length_nil, Nat.reduceAdd, Nat.reduceSub, Array.replicate_succ, Array.replicate_zero, List.push_toArray, List.append_toArray, List.nil_append, List.cons_append]
  gi_wp2_with (fail)
  generalize ((w.alloc (.cells #[.int .i64 room, .int .u32 last, .slice q L.length cap] 39)).alloc (.cells #[.int .i64 d, .int .i64 kind, .int .i64 near, .int .u32 x] 29)).alloc (.cells #[.int .i64 0, .int .u32 0, .slice none 0 0] 39) = W at *
  have hWlt := hTh.rs.lt
  have hSl := hS.below hlow
  gi_at_call 25
  refine (callsIn_wide.2 (clone_ok hSl.tab)).mono ?_
  rintro e W2 ⟨p', b', rfl, hp', hb', hTn, hB2⟩
  have hT2 := hTh.keep (Ext.of_below (S := fun _ => False) hB2) (fun _ h => h.elim)
  have hS2 := hSl.below hB2
  have hR2 : Rl W2 (fun j => (j = p ∨ j = b ∨ j = B) ∨ w.heap.size ≤ j) (.slice q L.length cap) L := hS.rl.own (hlow.trans (hB2.mono hlow.size))
  have hW2s := hB2.size
  have hext0 := hS.ext.size
  have hWw := hlow.size
  clear hTh o0 o2 t0 t1 t2
  have hop := open_all hO hS2.tab (by omega) hS.lr (by omega) (by have := hS.t0; omega)
  gi_wp2_with (fail)
  gi_at_call 7
  refine (callsIn_wide.2 hop).mono ?_
  rintro e W3 ⟨rfl, hTab3, hX3⟩
  have hT3 := hT2.keep hX3 (fun k e => .inl (by omega))
  have hTn3 := hTn.keep hX3 (by omega) (by omega)
  have hR3 := hR2.keep hX3 (fun j _ hj => .inl (by omega))
  have o3 := hT3.o3
  clear hop hT2
  gi_wp2_with (fail)
  gi_at_call 17
  refine (callsIn_wide.2 (drop_ok hTab3 hx)).mono ?_
  rintro e W4 ⟨rfl, _, hX4⟩
  have hT4 := hT3.keep hX4 (fun k e => .inl (by omega))
  have hTn4 := hTn3.keep hX4 (by omega) (by omega)
  have hR4 := hR3.keep hX4 (fun j _ hj => .inl (by omega))
  have hS4 : St B0 B w0 W4 p' b' (k + 1) room turns last L (.slice q L.length cap) := ⟨hTn4.mono (by omega), hR4.mono (fun j _ hj => by omega), hS.ord, hS.tl, hS.wf, by have := hS.t0; omega, hS.lr, by omega, (hS2.ext.trans (hX3.mono (fun j _ hj => by have := hS.low; omega))).trans (hX4.mono (fun j _ hj => by have := hS.low; omega)), by omega⟩
  have hb4 := hT4.tb
  clear o3 hT3 hTn hTn3 hTn4 hR2 hR3 hS2 hSl hX3 hX4 hB2 hlow hO hTab3
  gi_wp2_with (fail)
  have hlt4 := hT4.rs.lt
  have hcls : ∀ w' : World, Ext (fun k => k = w.heap.size + 1 + 1) W4 w' → w'.cell? ⟨w.heap.size, 0, none⟩ = some (.int .i64 room) ∧ w'.cell? ⟨w.heap.size, 1, none⟩ = some (.int .u32 last) ∧ w'.cell? ⟨w.heap.size, 2, none⟩ = some (.slice q L.length cap) := fun w' hw => by
    have := hb4.keep hw (by omega)
    exact ⟨this.c0, this.c1, this.c2⟩
  refine wpIn_region_stg [.q 0 1, .q 1 1, .q 2 1, .q 3 1, .q 4 1, .l 5, .q 6 1] [5]
    (fun _ w' => Ext (fun k => k = w.heap.size + 1 + 1) W4 w') (by kernel_rfl) (by kernel_rfl) ((Ext.refl _ W4).drew) ?_
  repeat (
    refine wpStg_q (v := ?_) rfl (fun _ h => by cases h) (fun _ => rfl) rfl (fun c' w' hc' hw => ?_) ?_
    rotate_left
    · (obtain ⟨z1, z2, z3⟩ := hcls w' hw; first | (go_simp; done) | (go_simp; with_reducible rfl))
    try simp only [Act.put, List.getElem_toArray, List.getElem_cons_zero, List.getElem_cons_succ, List.setIfInBounds_toArray, List.set_cons_succ, List.set_cons_zero])
  have r0 := hT4.rs.c0
  have r1 := hT4.rs.c1
  have r2 := hT4.rs.c2
  have u0 := hT4.rs.fz 0
  have u1 := hT4.rs.fz 1
  have u2 := hT4.rs.fz 2
  have hst : ∀ a c d, Ext (fun k => k = w.heap.size + 1 + 1) W4 (((W4.setCell ⟨w.heap.size + 1 + 1, 0, none⟩ a).setCell ⟨w.heap.size + 1 + 1, 1, none⟩ c).setCell ⟨w.heap.size + 1 + 1, 2, none⟩ d).drew := fun a c d => (ext_set3 a c d).drew
  have hrs := (hT4.rs.set3 room last (.slice q L.length cap)).keep ((Ext.refl (fun _ => False) _).drew) (fun h => h)
  refine wpStg_l rfl ?_
  gi_wp2
  refine ⟨hst _ _ _, ?_⟩
  have hE5 := hst (.int .i64 room) (.int .u32 last) (.slice q L.length cap)
  clear hst hcls r0 r1 r2 u0 u1 u2
  generalize (((W4.setCell ⟨w.heap.size + 1 + 1, 0, none⟩ (.int .i64 room)).setCell ⟨w.heap.size + 1 + 1, 1, none⟩ (.int .u32 last)).setCell ⟨w.heap.size + 1 + 1, 2, none⟩ (.slice q L.length cap)).drew = W5 at hrs hE5 ⊢
  have hS5 := hS4.turn hR4 hE5 (fun j hj => .inr (by omega)) ⟨by omega, by omega⟩ (fun j hj => by omega) (fun j hj => by omega)
  repeat (
    refine wpStg_q (v := ?_) rfl (fun _ h => by cases h) (fun _ => rfl) rfl (fun c' w' hc' hw => ?_) ?_
    rotate_left
    · (first | (go_simp; done) | (go_simp; with_reducible rfl))
    try simp only [Act.put, List.getElem_toArray, List.getElem_cons_zero, List.getElem_cons_succ, List.setIfInBounds_toArray, List.set_cons_succ, List.set_cons_zero])
  refine wpStg_nil ?_
  have r0 := hrs.c0
  have r1 := hrs.c1
  have r2 := hrs.c2
  gi_wp2
  refine bodyPost_ret (v := .tuple #[.pointer (some ⟨p', 0, none⟩), .agg #[.int .i64 room, .int .u32 last, .slice q L.length cap], .bool true]) (by rw [results_tmp_cell_tmp rfl]; go_simp) rfl ?_
  exact ⟨p', b', turns, last, L, _, rfl, hS5⟩

set_option maxRecDepth 40000 in
set_option maxHeartbeats 6400000 in
theorem op_cloneC {B0 B : Nat} {w0 w : World} {p b k : Nat} {room turns last : Int} {L : List En} {v : Value} (hS : St B0 B w0 w p b k room turns last L v) (hk : k ≤ 500) (d kind x : Int) (j : Nat) (e0 : En) (he0 : L[j]? = some e0) (hd0 : (d == 0) = false) (hd1 : (d == 1) = false) (hd2 : (d == 2) = false) (hd3 : (d == 3) = false) (hx : 0 ≤ x ∧ x < 4294967296) :
    Calls Try.prog 10 #[.pointer (some ⟨p, 0, none⟩), .agg #[.int .i64 room, .int .u32 last, v], .agg #[.int .i64 d, .int .i64 kind, (.int .i64 j), .int .u32 x]] w fun e w' =>
      ∃ (p' b' : Nat) (turns' last' : Int) (L' : List En) (v' : Value), e = .returned (.tuple #[.pointer (some ⟨p', 0, none⟩), .agg #[.int .i64 room, .int .u32 last', v'], .bool true]) ∧ St B0 B w0 w' p' b' (k + 1) room turns' last' L' v' := by
  obtain ⟨hTh, hlow⟩ := th_start w room last v d kind j x
  have hplt := hS.tab.lt
  have hblt := hS.tab.blt
  have hln := hS.len
  have hlw := hS.low
  have hex := hS.ext.size
  obtain ⟨q, cap, ev, _⟩ := id hS.rl
  subst ev
  have hf25 : Fence.wide.fn 25 := trivial
  have hf17 : Fence.wide.fn 17 := trivial
  have hf7 : Fence.wide.fn 7 := trivial
  obtain ⟨turns', last', y, c, L', hO⟩ := opn_ex room turns last L 2
  have o2 : (((w.alloc (.cells #[.int .i64 room, .int .u32 last, .slice q L.length cap] 39)).alloc (.cells #[.int .i64 d, .int .i64 kind, (.int .i64 j), .int .u32 x] 29)).alloc (.cells #[.int .i64 0, .int .u32 0, .slice none 0 0] 39)).cell? ⟨w.heap.size + 1, 2, none⟩ = some (.int .i64 j) := by
    rw [World.cell?_alloc_lt _ _ _ (by simp)]
    rw [World.cell?_alloc_at _ _ _ _ (by simp)]
    rfl
  have o0 := hTh.o0
  have t0 := hTh.tb.c0
  have t1 := hTh.tb.c1
  have t2 := hTh.tb.c2
  refine (callsIn_wide (n := 1)).1 ?_
  refine callsIn_of_wp Try.func10 rfl trivial ?_ rfl
  simp only [Try.ntmps10, List.size_toArray, List.length_cons, List.length_nil, Nat.reduceAdd, Nat.reduceSub, Array.replicate_succ, Array.replicate_zero, List.push_toArray, List.append_toArray, List.nil_append, List.cons_append]
  have hjl : j < L.length := (List.getElem?_eq_some_iff.1 he0).1
  have hja : (j : Int) < (L.length : Int) := by omega
  obtain ⟨bq, off, rfl, hbq1, hbq2, hbq3⟩ : ∃ bq off, q = some ⟨bq, off, none⟩ ∧ ¬ (bq = p ∨ bq = b ∨ bq = B) ∧ bq < w.heap.size ∧ ∀ j e, L[j]? = some e → w.cell? ⟨bq, off + j * 2, none⟩ = some (.int .u32 e.1) ∧ w.cell? ⟨bq, off + j * 2 + 1, none⟩ = some (.int .i64 e.2.1) := by
    rename_i hh
    exact hh.2 (by intro e; simp [e] at hjl)
  have tc := (hlow.cell (p := ⟨bq, off + j * 2, none⟩) hbq2).trans (hbq3 j e0 he0).1
  have o3' := hTh.o3
  have fo := hTh.of
  have fo3 := fo 3
  have hxe := hS.wf e0 (List.mem_of_getElem? he0)
  clear fo hbq3
  gi_wp2_with (fail)
  clear hTh hlow tc fo3
  obtain ⟨hTh, hlow⟩ := th_start w room last (.slice (some ⟨bq, off, none⟩) L.length cap) d kind j e0.1
  clear hx
  have hx := hxe
  generalize ((w.alloc (.cells #[.int .i64 room, .int .u32 last, .slice (some ⟨bq, off, none⟩) L.length cap] 39)).alloc (.cells #[.int .i64 d, .int .i64 kind, (.int .i64 j), .int .u32 e0.1] 29)).alloc (.cells #[.int .i64 0, .int .u32 0, .slice none 0 0] 39) = W at *
  have hWlt := hTh.rs.lt
  have hSl := hS.below hlow
  gi_at_call 25
  refine (callsIn_wide.2 (clone_ok hSl.tab)).mono ?_
  rintro e W2 ⟨p', b', rfl, hp', hb', hTn, hB2⟩
  have hT2 := hTh.keep (Ext.of_below (S := fun _ => False) hB2) (fun _ h => h.elim)
  have hS2 := hSl.below hB2
  have hR2 : Rl W2 (fun j => (j = p ∨ j = b ∨ j = B) ∨ w.heap.size ≤ j) (.slice (some ⟨bq, off, none⟩) L.length cap) L := hS.rl.own (hlow.trans (hB2.mono hlow.size))
  have hW2s := hB2.size
  have hext0 := hS.ext.size
  have hWw := hlow.size
  clear hTh o0 o2 t0 t1 t2
  have hop := open_all hO hS2.tab (by omega) hS.lr (by omega) (by have := hS.t0; omega)
  gi_wp2_with (fail)
  gi_at_call 7
  refine (callsIn_wide.2 hop).mono ?_
  rintro e W3 ⟨rfl, hTab3, hX3⟩
  have hT3 := hT2.keep hX3 (fun k e => .inl (by omega))
  have hTn3 := hTn.keep hX3 (by omega) (by omega)
  have hR3 := hR2.keep hX3 (fun j _ hj => .inl (by omega))
  have o3 := hT3.o3
  clear hop hT2
  gi_wp2_with (fail)
  gi_at_call 17
  refine (callsIn_wide.2 (drop_ok hTab3 hx)).mono ?_
  rintro e W4 ⟨rfl, _, hX4⟩
  have hT4 := hT3.keep hX4 (fun k e => .inl (by omega))
  have hTn4 := hTn3.keep hX4 (by omega) (by omega)
  have hR4 := hR3.keep hX4 (fun j _ hj => .inl (by omega))
  have hS4 : St B0 B w0 W4 p' b' (k + 1) room turns last L (.slice (some ⟨bq, off, none⟩) L.length cap) := ⟨hTn4.mono (by omega), hR4.mono (fun j _ hj => by omega), hS.ord, hS.tl, hS.wf, by have := hS.t0; omega, hS.lr, by omega, (hS2.ext.trans (hX3.mono (fun j _ hj => by have := hS.low; omega))).trans (hX4.mono (fun j _ hj => by have := hS.low; omega)), by omega⟩
  have hb4 := hT4.tb
  clear o3 hT3 hTn hTn3 hTn4 hR2 hR3 hS2 hSl hX3 hX4 hB2 hlow hO hTab3
  gi_wp2_with (fail)
  have hlt4 := hT4.rs.lt
  have hcls : ∀ w' : World, Ext (fun k => k = w.heap.size + 1 + 1) W4 w' → w'.cell? ⟨w.heap.size, 0, none⟩ = some (.int .i64 room) ∧ w'.cell? ⟨w.heap.size, 1, none⟩ = some (.int .u32 last) ∧ w'.cell? ⟨w.heap.size, 2, none⟩ = some (.slice (some ⟨bq, off, none⟩) L.length cap) := fun w' hw => by
    have := hb4.keep hw (by omega)
    exact ⟨this.c0, this.c1, this.c2⟩
  refine wpIn_region_stg [.q 0 1, .q 1 1, .q 2 1, .q 3 1, .q 4 1, .l 5, .q 6 1] [5]
    (fun _ w' => Ext (fun k => k = w.heap.size + 1 + 1) W4 w') (by kernel_rfl) (by kernel_rfl) ((Ext.refl _ W4).drew) ?_
  repeat (
    refine wpStg_q (v := ?_) rfl (fun _ h => by cases h) (fun _ => rfl) rfl (fun c' w' hc' hw => ?_) ?_
    rotate_left
    · (obtain ⟨z1, z2, z3⟩ := hcls w' hw; first | (go_simp; done) | (go_simp; with_reducible rfl))
    try simp only [Act.put, List.getElem_toArray, List.getElem_cons_zero, List.getElem_cons_succ, List.setIfInBounds_toArray, List.set_cons_succ, List.set_cons_zero])
  have r0 := hT4.rs.c0
  have r1 := hT4.rs.c1
  have r2 := hT4.rs.c2
  have u0 := hT4.rs.fz 0
  have u1 := hT4.rs.fz 1
  have u2 := hT4.rs.fz 2
  have hst : ∀ a c d, Ext (fun k => k = w.heap.size + 1 + 1) W4 (((W4.setCell ⟨w.heap.size + 1 + 1, 0, none⟩ a).setCell ⟨w.heap.size + 1 + 1, 1, none⟩ c).setCell ⟨w.heap.size + 1 + 1, 2, none⟩ d).drew := fun a c d => (ext_set3 a c d).drew
  have hrs := (hT4.rs.set3 room last (.slice (some ⟨bq, off, none⟩) L.length cap)).keep ((Ext.refl (fun _ => False) _).drew) (fun h => h)
  refine wpStg_l rfl ?_
  gi_wp2
  refine ⟨hst _ _ _, ?_⟩
  have hE5 := hst (.int .i64 room) (.int .u32 last) (.slice (some ⟨bq, off, none⟩) L.length cap)
  clear hst hcls r0 r1 r2 u0 u1 u2
  generalize (((W4.setCell ⟨w.heap.size + 1 + 1, 0, none⟩ (.int .i64 room)).setCell ⟨w.heap.size + 1 + 1, 1, none⟩ (.int .u32 last)).setCell ⟨w.heap.size + 1 + 1, 2, none⟩ (.slice (some ⟨bq, off, none⟩) L.length cap)).drew = W5 at hrs hE5 ⊢
  have hS5 := hS4.turn hR4 hE5 (fun j hj => .inr (by omega)) ⟨by omega, by omega⟩ (fun j hj => by omega) (fun j hj => by omega)
  repeat (
    refine wpStg_q (v := ?_) rfl (fun _ h => by cases h) (fun _ => rfl) rfl (fun c' w' hc' hw => ?_) ?_
    rotate_left
    · (first | (go_simp; done) | (go_simp; with_reducible rfl))
    try simp only [Act.put, List.getElem_toArray, List.getElem_cons_zero, List.getElem_cons_succ, List.setIfInBounds_toArray, List.set_cons_succ, List.set_cons_zero])
  refine wpStg_nil ?_
  have r0 := hrs.c0
  have r1 := hrs.c1
  have r2 := hrs.c2
  gi_wp2
  refine bodyPost_ret (v := .tuple #[.pointer (some ⟨p', 0, none⟩), .agg #[.int .i64 room, .int .u32 last, .slice (some ⟨bq, off, none⟩) L.length cap], .bool true]) (by rw [results_tmp_cell_tmp rfl]; go_simp) rfl ?_
  exact ⟨p', b', turns, last, L, _, rfl, hS5⟩
end Go.Proofs.Ythminmcdkcnkpaa
