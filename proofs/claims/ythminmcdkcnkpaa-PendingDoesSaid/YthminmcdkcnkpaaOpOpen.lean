/- op at Open, way A. -/
import Derived.Test.YthminmcdkcnkpaaOpn
namespace Go.Proofs.Ythminmcdkcnkpaa
open Go.RowKit Go.Maps
attribute [local go_sem] Oper.semAt_some

set_option maxRecDepth 40000 in
set_option maxHeartbeats 6400000 in
theorem op_openA {B0 B : Nat} {w0 w : World} {p b k : Nat} {room turns last : Int} {L : List En} {v : Value} (hS : St B0 B w0 w p b k room turns last L v) (hk : k ≤ 500) (kind near x : Int) (hx : 0 ≤ x ∧ x < 4294967296) (hn : near < 0) :
    Calls Try.prog 10 #[.pointer (some ⟨p, 0, none⟩), .agg #[.int .i64 room, .int .u32 last, v], .agg #[.int .i64 0, .int .i64 kind, .int .i64 near, .int .u32 x]] w fun e w' =>
      ∃ (p' b' : Nat) (turns' last' : Int) (L' : List En) (v' : Value), e = .returned (.tuple #[.pointer (some ⟨p', 0, none⟩), .agg #[.int .i64 room, .int .u32 last', v'], .bool true]) ∧ St B0 B w0 w' p' b' (k + 1) room turns' last' L' v' := by
  obtain ⟨hTh, hlow⟩ := th_start w room last v 0 kind near x
  have hplt := hS.tab.lt
  have hblt := hS.tab.blt
  have hln := hS.len
  have hlw := hS.low
  have hex := hS.ext.size
  obtain ⟨q, cap, ev, _⟩ := id hS.rl
  subst ev
  have hf21 : Fence.wide.fn 21 := trivial
  have hf7 : Fence.wide.fn 7 := trivial
  obtain ⟨turns', last', y, c, L', hO⟩ := opn_ex room turns last L kind
  have o2 : (((w.alloc (.cells #[.int .i64 room, .int .u32 last, .slice q L.length cap] 39)).alloc (.cells #[.int .i64 0, .int .i64 kind, .int .i64 near, .int .u32 x] 29)).alloc (.cells #[.int .i64 0, .int .u32 0, .slice none 0 0] 39)).cell? ⟨w.heap.size + 1, 2, none⟩ = some (.int .i64 near) := by
    rw [World.cell?_alloc_lt _ _ _ (by simp)]
    rw [World.cell?_alloc_at _ _ _ _ (by simp)]
    rfl
  have o0 := hTh.o0
  have t0 := hTh.tb.c0
  have t1 := hTh.tb.c1
  have t2 := hTh.tb.c2
  refine (callsIn_wide (n := 1)).1 ?_
  refine callsIn_of_wp Try.func10 rfl trivial ?_ rfl
  simp only [Try.ntmps10, List.size_toArray, List.length_cons, List.length_nil, Nat.reduceAdd, Nat.reduceSub, Array.replicate_succ, Array.replicate_zero, List.push_toArray, List.append_toArray, List.nil_append, List.cons_append]
  have o1 := hTh.o1
  gi_wp2_with (fail)
  generalize ((w.alloc (.cells #[.int .i64 room, .int .u32 last, .slice q L.length cap] 39)).alloc (.cells #[.int .i64 0, .int .i64 kind, .int .i64 near, .int .u32 x] 29)).alloc (.cells #[.int .i64 0, .int .u32 0, .slice none 0 0] 39) = W at *
  have hWlt := hTh.rs.lt
  gi_at_call 21
  refine (callsIn_wide.2 (refOpen_all hO (hS.rl.own hlow) (by omega) hS.lr)).mono ?_
  rintro e W2 ⟨v', rfl, hR2, hB2⟩
  obtain ⟨q3, c3, rfl, _⟩ := id hR2
  have hB02 := hlow.trans (hB2.mono hlow.size)
  have hT2 := hTh.keep (Ext.of_below (S := fun _ => False) hB2) (fun _ h => h.elim)
  have hb3 : Bx (W2.alloc (.cells #[.int .i64 room, .int .u32 last', .slice q3 L'.length c3] 39)) W2.heap.size room last' (.slice q3 L'.length c3) := Bx.of_obj (MapKept.heap_alloc W2 _).1
  have hB3 : Below W2.heap.size W2 (W2.alloc (.cells #[.int .i64 room, .int .u32 last', .slice q3 L'.length c3] 39)) := (Below.refl _ W2).alloc (Nat.le_refl _) _
  have hT3 := hT2.keep (Ext.of_below (S := fun _ => False) hB3) (fun _ h => h.elim)
  have hS3 := (hS.below hB02).below hB3
  have hR3 : Rl (W2.alloc (.cells #[.int .i64 room, .int .u32 last', .slice q3 L'.length c3] 39)) (fun j => ((j = p ∨ j = b ∨ j = B) ∨ w.heap.size ≤ j) ∧ j < W.heap.size) (.slice q3 L'.length c3) L' := hR2.keep (Ext.of_below (S := fun _ => False) hB3) (fun _ _ h => h.elim)
  have hW2s := hB2.size
  have hext0 := hS.ext.size
  clear hTh o0 o2 t0 t1 t2 o1 hT2
  have o1 := hT3.o1
  gi_wp2_with (fail)
  gi_at_call 7
  refine (callsIn_wide.2 (open_all hO hS3.tab (by omega) hS.lr (by omega) (by have := hS.t0; omega))).mono ?_
  rintro e W4 ⟨rfl, hTab, hX⟩
  have hb4 := hb3.keep hX (by omega)
  have hT4 := hT3.keep hX (fun k e => .inl (by omega))
  have hR4 := hR3.keep hX (fun j _ hj => ⟨.inl (by omega), by omega⟩)
  obtain ⟨n1, n2, n3⟩ := hO.nums hS.lr hS.t0 hS.len
  have hS4 : St B0 B w0 W4 p b (k + 1) room turns' last' L' (.slice q3 L'.length c3) := ⟨hTab, hR4.mono (fun j _ hj => ⟨.inl hj, by omega⟩), hO.ord hS.ord hS.tl, hO.tl hS.tl, hO.wf hS.wf, n1, n2, n3, hS3.ext.trans (hX.mono (fun j _ hj => by have := hS.low; omega)), hS.low⟩
  clear o1 hTab hX hT3 hS3 hb3 hB3 hR3 hR2 hB2 hB02 hlow n1 n2 n3 hO
  gi_wp2_with (fail)
  have hlt4 := hT4.rs.lt
  have hcls : ∀ w' : World, Ext (fun k => k = w.heap.size + 1 + 1) W4 w' → w'.cell? ⟨W2.heap.size, 0, none⟩ = some (.int .i64 room) ∧ w'.cell? ⟨W2.heap.size, 1, none⟩ = some (.int .u32 last') ∧ w'.cell? ⟨W2.heap.size, 2, none⟩ = some (.slice q3 L'.length c3) := fun w' hw => by
    have := hb4.keep hw (by omega)
    exact ⟨this.c0, this.c1, this.c2⟩
  refine wpIn_region_stg [.q 0 1, .q 1 1, .q 2 1, .q 3 1, .q 4 1, .q 5 1, .q 6 1, .q 7 1, .q 8 1, .q 9 1, .q 10 1, .l 11, .q 12 1] [11]
    (fun _ w' => Ext (fun k => k = w.heap.size + 1 + 1) W4 w') (by kernel_rfl) (by kernel_rfl) ((Ext.refl _ W4).drew) ?_
  repeat (
    refine wpStg_q (v := ?_) rfl (fun _ h => by cases h) (fun _ => rfl) rfl (fun c' w' hc' hw => ?_) ?_
    rotate_left
    · (obtain ⟨z1, z2, z3⟩ := hcls w' hw; first | (go_simp; done) | (go_simp; with_reducible rfl))
    try simp only [Act.put, List.getElem_toArray, List.getElem_cons_zero, List.getElem_cons_succ, List.setIfInBounds_toArray, List.set_cons_succ, List.set_cons_zero])
  have r0 := hT4.rs.c0
  have r1 := hT4.rs.c1
  have r2 := hT4.rs.c2
  have u0 := hT4.rs.fz 0
  have u1 := hT4.rs.fz 1
  have u2 := hT4.rs.fz 2
  have hst : ∀ a c d, Ext (fun k => k = w.heap.size + 1 + 1) W4 (((W4.setCell ⟨w.heap.size + 1 + 1, 0, none⟩ a).setCell ⟨w.heap.size + 1 + 1, 1, none⟩ c).setCell ⟨w.heap.size + 1 + 1, 2, none⟩ d).drew := fun a c d => (ext_set3 a c d).drew
  have hrs := (hT4.rs.set3 room last' (.slice q3 L'.length c3)).keep ((Ext.refl (fun _ => False) _).drew) (fun h => h)
  refine wpStg_l rfl ?_
  gi_wp2
  refine ⟨hst _ _ _, ?_⟩
  have hE5 := hst (.int .i64 room) (.int .u32 last') (.slice q3 L'.length c3)
  clear hst hcls r0 r1 r2 u0 u1 u2
  generalize (((W4.setCell ⟨w.heap.size + 1 + 1, 0, none⟩ (.int .i64 room)).setCell ⟨w.heap.size + 1 + 1, 1, none⟩ (.int .u32 last')).setCell ⟨w.heap.size + 1 + 1, 2, none⟩ (.slice q3 L'.length c3)).drew = W5 at hrs hE5 ⊢
  have hS5 := hS4.turn hR4 hE5 (fun j hj => ⟨.inr (by omega), by omega⟩) ⟨by omega, by omega⟩ (fun j hj => ⟨.inl hj, by omega⟩) (fun j hj => by omega)
  repeat (
    refine wpStg_q (v := ?_) rfl (fun _ h => by cases h) (fun _ => rfl) rfl (fun c' w' hc' hw => ?_) ?_
    rotate_left
    · (first | (go_simp; done) | (go_simp; with_reducible rfl))
    try simp only [Act.put, List.getElem_toArray, List.getElem_cons_zero, List.getElem_cons_succ, List.setIfInBounds_toArray, List.set_cons_succ, List.set_cons_zero])
  refine wpStg_nil ?_
  have r0 := hrs.c0
  have r1 := hrs.c1
  have r2 := hrs.c2
  gi_wp2
  refine bodyPost_ret (v := .tuple #[.pointer (some ⟨p, 0, none⟩), .agg #[.int .i64 room, .int .u32 last', .slice q3 L'.length c3], .bool true]) (by rw [results_tmp_cell_tmp rfl]; go_simp) rfl ?_
  exact ⟨p, b, turns', last', L', _, rfl, hS5⟩
end Go.Proofs.Ythminmcdkcnkpaa
