/- op, walked (under way). -/
import Derived.Test.YthminmcdkcnkpaaOp
namespace Go.Proofs.Ythminmcdkcnkpaa
open Go.RowKit Go.Maps
attribute [local go_sem] Oper.semAt_some

theorem results_tmp_cell_tmp {fn : Func} {p u v : Tmp} {ty : TypeId} (h : fn.results = #[.tmp u, .cell p ty, .tmp v]) (tmps : Array Value) (P : Program) (w : World) :
    (results fn tmps).run P w =
      ((asAddr (tmps.getD p undef)).run P w).andThen fun a w₁ => ((loadVar ty a).run P w₁).andThen fun x w₂ => .ok (.tuple #[tmps.getD u undef, x, tmps.getD v undef]) w₂ := by
  simp only [results, h]
  simp [Sem.run_bind, Result.andThen]

set_option maxRecDepth 40000 in
set_option maxHeartbeats 6400000 in
theorem op_nextA {B0 B : Nat} {w0 w : World} {p b k : Nat} {room turns last : Int} {L : List En} {v : Value} (hS : St B0 B w0 w p b k room turns last L v) (hk : k ≤ 500) (kind near x : Int) (hx : 0 ≤ x ∧ x < 4294967296) (hn : near < 0) :
    Calls Try.prog 10 #[.pointer (some ⟨p, 0, none⟩), .agg #[.int .i64 room, .int .u32 last, v], .agg #[.int .i64 3, .int .i64 kind, .int .i64 near, .int .u32 x]] w fun e w' =>
      ∃ (p' b' : Nat) (turns' last' : Int) (L' : List En) (v' : Value), e = .returned (.tuple #[.pointer (some ⟨p', 0, none⟩), .agg #[.int .i64 room, .int .u32 last', v'], .bool true]) ∧ St B0 B w0 w' p' b' (k + 1) room turns' last' L' v' := by
  obtain ⟨hTh, hlow⟩ := th_start w room last v 3 kind near x
  have hplt := hS.tab.lt
  have hblt := hS.tab.blt
  have hln := hS.len
  have hlw := hS.low
  have hex := hS.ext.size
  obtain ⟨q, cap, ev, _⟩ := id hS.rl
  subst ev
  have hf24 : Fence.wide.fn 24 := trivial
  have hf16 : Fence.wide.fn 16 := trivial
  have o2 : (((w.alloc (.cells #[.int .i64 room, .int .u32 last, .slice q L.length cap] 39)).alloc (.cells #[.int .i64 3, .int .i64 kind, .int .i64 near, .int .u32 x] 29)).alloc (.cells #[.int .i64 0, .int .u32 0, .slice none 0 0] 39)).cell? ⟨w.heap.size + 1, 2, none⟩ = some (.int .i64 near) := by
    rw [World.cell?_alloc_lt _ _ _ (by simp)]
    rw [World.cell?_alloc_at _ _ _ _ (by simp)]
    rfl
  have o0 := hTh.o0
  have t0 := hTh.tb.c0
  have t1 := hTh.tb.c1
  have t2 := hTh.tb.c2
  refine (callsIn_wide (n := 1)).1 ?_
  refine callsIn_of_wp Try.func10 rfl trivial ?_ rfl
  simp only [Try.ntmps10, List.size_toArray, List.length_cons, List.length_nil, Nat.reduceAdd, Nat.reduceSub, Array.replicate_succ, Array.replicate_zero, List.push_toArray, List.append_toArray, List.nil_append, List.cons_append]
  gi_wp2_with (fail)
  generalize ((w.alloc (.cells #[.int .i64 room, .int .u32 last, .slice q L.length cap] 39)).alloc (.cells #[.int .i64 3, .int .i64 kind, .int .i64 near, .int .u32 x] 29)).alloc (.cells #[.int .i64 0, .int .u32 0, .slice none 0 0] 39) = W at *
  gi_at_call 24
  have hrn := refNext_ok (hS.rl.low hlow) room last hS.lr (by omega)
  refine (callsIn_wide.2 hrn).mono ?_
  rintro e W2 ⟨rfl, hB2⟩
  have hB02 := hlow.trans (hB2.mono hlow.size)
  have hT2 := hTh.keep (Ext.of_below (S := fun _ => False) hB2) (fun _ h => h.elim)
  have hS2 := hS.below hB02
  have hRw : Rl W2 (fun j => (j = p ∨ j = b ∨ j = B) ∨ w.heap.size ≤ j) (.slice q L.length cap) L := hS.rl.own hB02
  have hrg := nx_range (keys L) last
  have hnk := next_ok hS2.tab hS2.lr (by omega)
  have hlt2 := hT2.rs.lt
  clear hrn hTh o0 o2 t0 t1 t2 hB2
  have hb3 : Bx (W2.alloc (.cells #[.int .i64 room, .int .u32 (nx (keys L) last), .slice q L.length cap] 39)) W2.heap.size room (nx (keys L) last) (.slice q L.length cap) := Bx.of_obj (MapKept.heap_alloc W2 _).1
  have hB3 : Below W2.heap.size W2 (W2.alloc (.cells #[.int .i64 room, .int .u32 (nx (keys L) last), .slice q L.length cap] 39)) := (Below.refl _ W2).alloc (Nat.le_refl _) _
  have hnk := next_ok (hS2.below hB3).tab hS2.lr (by omega)
  gi_wp2_with (fail)
  gi_at_call 16
  refine (callsIn_wide.2 hnk).mono ?_
  rintro e W4 ⟨rfl, hTab, hX⟩
  have hb4 := hb3.keep hX (by omega)
  have hT4 := (hT2.keep (Ext.of_below (S := fun _ => False) hB3) (fun _ h => h.elim)).keep hX (fun k e => .inl (by omega))
  have hE4 : Ext (fun k => k = p) W2 W4 := (Ext.of_below (S := fun k => k = p) hB3).trans hX
  have hR4 := hRw.keep hE4 (fun j _ hj => .inl (.inl hj))
  have hS4 : St B0 B w0 W4 p b k room turns (nx (keys L) last) L (.slice q L.length cap) := ⟨hTab, hR4.mono (fun j _ hj => .inl hj), hS.ord, hS.tl, hS.wf, hS.t0, hrg, hS.len, hS2.ext.trans (hE4.mono (fun j _ hj => by have := hS.low; omega)), hS.low⟩
  clear hnk hTab hX hT2 hS2 hRw hb3 hB3 hE4
  generalize nx (keys L) last = y at *
  gi_wp2_with (fail)
  have hlt4 := hT4.rs.lt
  have hcls : ∀ w' : World, Ext (fun k => k = w.heap.size + 1 + 1) W4 w' → w'.cell? ⟨W2.heap.size, 0, none⟩ = some (.int .i64 room) ∧ w'.cell? ⟨W2.heap.size, 1, none⟩ = some (.int .u32 y) ∧ w'.cell? ⟨W2.heap.size, 2, none⟩ = some (.slice q L.length cap) := fun w' hw => by
    have := hb4.keep hw (by omega)
    exact ⟨this.c0, this.c1, this.c2⟩
  refine wpIn_region_stg [.q 0 1, .q 1 1, .q 2 1, .q 3 1, .q 4 1, .q 5 1, .q 6 1, .q 7 1, .q 8 1, .q 9 1, .l 10, .q 11 1] [10]
    (fun _ w' => Ext (fun k => k = w.heap.size + 1 + 1) W4 w') (by kernel_rfl) (by kernel_rfl) ((Ext.refl _ W4).drew) ?_
  repeat (
    refine wpStg_q (v := ?_) rfl (fun _ h => by cases h) (fun _ => rfl) rfl (fun c' w' hc' hw => ?_) ?_
    rotate_left
    · (obtain ⟨z1, z2, z3⟩ := hcls w' hw; first | (go_simp; done) | (go_simp; with_reducible rfl))
    try simp only [Act.put, List.getElem_toArray, List.getElem_cons_zero, List.getElem_cons_succ, List.setIfInBounds_toArray, List.set_cons_succ, List.set_cons_zero])
  have r0 := hT4.rs.c0
  have r1 := hT4.rs.c1
  have r2 := hT4.rs.c2
  have u0 := hT4.rs.fz 0
  have u1 := hT4.rs.fz 1
  have u2 := hT4.rs.fz 2
  have hst : ∀ a c d, Ext (fun k => k = w.heap.size + 1 + 1) W4 (((W4.setCell ⟨w.heap.size + 1 + 1, 0, none⟩ a).setCell ⟨w.heap.size + 1 + 1, 1, none⟩ c).setCell ⟨w.heap.size + 1 + 1, 2, none⟩ d).drew := fun a c d => (ext_set3 a c d).drew
  have hrs := (hT4.rs.set3 room y (.slice q L.length cap)).keep ((Ext.refl (fun _ => False) _).drew) (fun h => h)
  refine wpStg_l rfl ?_
  gi_wp2
  refine ⟨hst _ _ _, ?_⟩
  have hE5 := hst (.int .i64 room) (.int .u32 y) (.slice q L.length cap)
  clear hst hcls r0 r1 r2 u0 u1 u2
  generalize (((W4.setCell ⟨w.heap.size + 1 + 1, 0, none⟩ (.int .i64 room)).setCell ⟨w.heap.size + 1 + 1, 1, none⟩ (.int .u32 y)).setCell ⟨w.heap.size + 1 + 1, 2, none⟩ (.slice q L.length cap)).drew = W5 at hrs hE5 ⊢
  have hS5 := hS4.turn hR4 hE5 (fun j hj => .inr (by omega)) ⟨by omega, by omega⟩ (fun j hj => .inl hj) (fun j hj => by have := hS.ext.size; omega)
  repeat (
    refine wpStg_q (v := ?_) rfl (fun _ h => by cases h) (fun _ => rfl) rfl (fun c' w' hc' hw => ?_) ?_
    rotate_left
    · (first | (go_simp; done) | (go_simp; with_reducible rfl))
    try simp only [Act.put, List.getElem_toArray, List.getElem_cons_zero, List.getElem_cons_succ, List.setIfInBounds_toArray, List.set_cons_succ, List.set_cons_zero])
  refine wpStg_nil ?_
  have r0 := hrs.c0
  have r1 := hrs.c1
  have r2 := hrs.c2
  gi_wp2
  refine bodyPost_ret (v := .tuple #[.pointer (some ⟨p, 0, none⟩), .agg #[.int .i64 room, .int .u32 y, .slice q L.length cap], .bool true]) (by rw [results_tmp_cell_tmp rfl]; go_simp) rfl ?_
  exact ⟨p, b, turns, y, L, _, rfl, hS5.more (by omega)⟩

set_option maxRecDepth 40000 in
set_option maxHeartbeats 6400000 in
theorem op_nextB {B0 B : Nat} {w0 w : World} {p b k : Nat} {room turns last : Int} {L : List En} {v : Value} (hS : St B0 B w0 w p b k room turns last L v) (hk : k ≤ 500) (kind near x : Int) (hx : 0 ≤ x ∧ x < 4294967296) (hn0 : 0 ≤ near) (hn : (L.length : Int) ≤ near) :
    Calls Try.prog 10 #[.pointer (some ⟨p, 0, none⟩), .agg #[.int .i64 room, .int .u32 last, v], .agg #[.int .i64 3, .int .i64 kind, .int .i64 near, .int .u32 x]] w fun e w' =>
      ∃ (p' b' : Nat) (turns' last' : Int) (L' : List En) (v' : Value), e = .returned (.tuple #[.pointer (some ⟨p', 0, none⟩), .agg #[.int .i64 room, .int .u32 last', v'], .bool true]) ∧ St B0 B w0 w' p' b' (k + 1) room turns' last' L' v' := by
  obtain ⟨hTh, hlow⟩ := th_start w room last v 3 kind near x
  have hplt := hS.tab.lt
  have hblt := hS.tab.blt
  have hln := hS.len
  have hlw := hS.low
  have hex := hS.ext.size
  obtain ⟨q, cap, ev, _⟩ := id hS.rl
  subst ev
  have hf24 : Fence.wide.fn 24 := trivial
  have hf16 : Fence.wide.fn 16 := trivial
  have o2 : (((w.alloc (.cells #[.int .i64 room, .int .u32 last, .slice q L.length cap] 39)).alloc (.cells #[.int .i64 3, .int .i64 kind, .int .i64 near, .int .u32 x] 29)).alloc (.cells #[.int .i64 0, .int .u32 0, .slice none 0 0] 39)).cell? ⟨w.heap.size + 1, 2, none⟩ = some (.int .i64 near) := by
    rw [World.cell?_alloc_lt _ _ _ (by simp)]
    rw [World.cell?_alloc_at _ _ _ _ (by simp)]
    rfl
  have o0 := hTh.o0
  have t0 := hTh.tb.c0
  have t1 := hTh.tb.c1
  have t2 := hTh.tb.c2
  refine (callsIn_wide (n := 1)).1 ?_
  refine callsIn_of_wp Try.func10 rfl trivial ?_ rfl
  simp only [Try.ntmps10, List.size_toArray, List.length_cons, List.length_nil, Nat.reduceAdd, Nat.reduceSub, Array.replicate_succ, Array.replicate_zero, List.push_toArray, List.append_toArray, List.nil_append, List.cons_append]
  gi_wp2_with (fail)
  generalize ((w.alloc (.cells #[.int .i64 room, .int .u32 last, .slice q L.length cap] 39)).alloc (.cells #[.int .i64 3, .int .i64 kind, .int .i64 near, .int .u32 x] 29)).alloc (.cells #[.int .i64 0, .int .u32 0, .slice none 0 0] 39) = W at *
  gi_at_call 24
  have hrn := refNext_ok (hS.rl.low hlow) room last hS.lr (by omega)
  refine (callsIn_wide.2 hrn).mono ?_
  rintro e W2 ⟨rfl, hB2⟩
  have hB02 := hlow.trans (hB2.mono hlow.size)
  have hT2 := hTh.keep (Ext.of_below (S := fun _ => False) hB2) (fun _ h => h.elim)
  have hS2 := hS.below hB02
  have hRw : Rl W2 (fun j => (j = p ∨ j = b ∨ j = B) ∨ w.heap.size ≤ j) (.slice q L.length cap) L := hS.rl.own hB02
  have hrg := nx_range (keys L) last
  have hnk := next_ok hS2.tab hS2.lr (by omega)
  have hlt2 := hT2.rs.lt
  clear hrn hTh o0 o2 t0 t1 t2 hB2
  have hb3 : Bx (W2.alloc (.cells #[.int .i64 room, .int .u32 (nx (keys L) last), .slice q L.length cap] 39)) W2.heap.size room (nx (keys L) last) (.slice q L.length cap) := Bx.of_obj (MapKept.heap_alloc W2 _).1
  have hB3 : Below W2.heap.size W2 (W2.alloc (.cells #[.int .i64 room, .int .u32 (nx (keys L) last), .slice q L.length cap] 39)) := (Below.refl _ W2).alloc (Nat.le_refl _) _
  have hnk := next_ok (hS2.below hB3).tab hS2.lr (by omega)
  gi_wp2_with (fail)
  gi_at_call 16
  refine (callsIn_wide.2 hnk).mono ?_
  rintro e W4 ⟨rfl, hTab, hX⟩
  have hb4 := hb3.keep hX (by omega)
  have hT4 := (hT2.keep (Ext.of_below (S := fun _ => False) hB3) (fun _ h => h.elim)).keep hX (fun k e => .inl (by omega))
  have hE4 : Ext (fun k => k = p) W2 W4 := (Ext.of_below (S := fun k => k = p) hB3).trans hX
  have hR4 := hRw.keep hE4 (fun j _ hj => .inl (.inl hj))
  have hS4 : St B0 B w0 W4 p b k room turns (nx (keys L) last) L (.slice q L.length cap) := ⟨hTab, hR4.mono (fun j _ hj => .inl hj), hS.ord, hS.tl, hS.wf, hS.t0, hrg, hS.len, hS2.ext.trans (hE4.mono (fun j _ hj => by have := hS.low; omega)), hS.low⟩
  clear hnk hTab hX hT2 hS2 hRw hb3 hB3 hE4
  generalize nx (keys L) last = y at *
  gi_wp2_with (fail)
  have hlt4 := hT4.rs.lt
  have hcls : ∀ w' : World, Ext (fun k => k = w.heap.size + 1 + 1) W4 w' → w'.cell? ⟨W2.heap.size, 0, none⟩ = some (.int .i64 room) ∧ w'.cell? ⟨W2.heap.size, 1, none⟩ = some (.int .u32 y) ∧ w'.cell? ⟨W2.heap.size, 2, none⟩ = some (.slice q L.length cap) := fun w' hw => by
    have := hb4.keep hw (by omega)
    exact ⟨this.c0, this.c1, this.c2⟩
  refine wpIn_region_stg [.q 0 1, .q 1 1, .q 2 1, .q 3 1, .q 4 1, .q 5 1, .q 6 1, .q 7 1, .q 8 1, .q 9 1, .l 10, .q 11 1] [10]
    (fun _ w' => Ext (fun k => k = w.heap.size + 1 + 1) W4 w') (by kernel_rfl) (by kernel_rfl) ((Ext.refl _ W4).drew) ?_
  repeat (
    refine wpStg_q (v := ?_) rfl (fun _ h => by cases h) (fun _ => rfl) rfl (fun c' w' hc' hw => ?_) ?_
    rotate_left
    · (obtain ⟨z1, z2, z3⟩ := hcls w' hw; first | (go_simp; done) | (go_simp; with_reducible rfl))
    try simp only [Act.put, List.getElem_toArray, List.getElem_cons_zero, List.getElem_cons_succ, List.setIfInBounds_toArray, List.set_cons_succ, List.set_cons_zero])
  have r0 := hT4.rs.c0
  have r1 := hT4.rs.c1
  have r2 := hT4.rs.c2
  have u0 := hT4.rs.fz 0
  have u1 := hT4.rs.fz 1
  have u2 := hT4.rs.fz 2
  have hst : ∀ a c d, Ext (fun k => k = w.heap.size + 1 + 1) W4 (((W4.setCell ⟨w.heap.size + 1 + 1, 0, none⟩ a).setCell ⟨w.heap.size + 1 + 1, 1, none⟩ c).setCell ⟨w.heap.size + 1 + 1, 2, none⟩ d).drew := fun a c d => (ext_set3 a c d).drew
  have hrs := (hT4.rs.set3 room y (.slice q L.length cap)).keep ((Ext.refl (fun _ => False) _).drew) (fun h => h)
  refine wpStg_l rfl ?_
  gi_wp2
  refine ⟨hst _ _ _, ?_⟩
  have hE5 := hst (.int .i64 room) (.int .u32 y) (.slice q L.length cap)
  clear hst hcls r0 r1 r2 u0 u1 u2
  generalize (((W4.setCell ⟨w.heap.size + 1 + 1, 0, none⟩ (.int .i64 room)).setCell ⟨w.heap.size + 1 + 1, 1, none⟩ (.int .u32 y)).setCell ⟨w.heap.size + 1 + 1, 2, none⟩ (.slice q L.length cap)).drew = W5 at hrs hE5 ⊢
  have hS5 := hS4.turn hR4 hE5 (fun j hj => .inr (by omega)) ⟨by omega, by omega⟩ (fun j hj => .inl hj) (fun j hj => by have := hS.ext.size; omega)
  repeat (
    refine wpStg_q (v := ?_) rfl (fun _ h => by cases h) (fun _ => rfl) rfl (fun c' w' hc' hw => ?_) ?_
    rotate_left
    · (first | (go_simp; done) | (go_simp; with_reducible rfl))
    try simp only [Act.put, List.getElem_toArray, List.getElem_cons_zero, List.getElem_cons_succ, List.setIfInBounds_toArray, List.set_cons_succ, List.set_cons_zero])
  refine wpStg_nil ?_
  have r0 := hrs.c0
  have r1 := hrs.c1
  have r2 := hrs.c2
  gi_wp2
  refine bodyPost_ret (v := .tuple #[.pointer (some ⟨p, 0, none⟩), .agg #[.int .i64 room, .int .u32 y, .slice q L.length cap], .bool true]) (by rw [results_tmp_cell_tmp rfl]; go_simp) rfl ?_
  exact ⟨p, b, turns, y, L, _, rfl, hS5.more (by omega)⟩
end Go.Proofs.Ythminmcdkcnkpaa
