/- Open, where there is room. -/
import Derived.Test.YthminmcdkcnkpaaOpen
namespace Go.Proofs.Ythminmcdkcnkpaa
open Go.RowKit Go.Maps
attribute [local go_sem] Oper.semAt_some
section
variable {w w' : World} {p b n : Nat} {room turns last : Int} {L : List En}

set_option maxHeartbeats 3200000 in
theorem open_ok (h : Tab w p b n room turns last L) (hr : 0 ≤ last ∧ last < 4294967296) {k : Int} (hk : isAsk k = true) (hroom : (L.length : Int) < room) (hl : L.length < 998) (hn : n < 1000000) (ht : 0 ≤ turns ∧ turns < 1000000) :
    Calls Try.prog 7 #[.pointer (some ⟨p, 0, none⟩), .int .i64 k] w fun e w' => e = .returned (.tuple #[.int .u32 (nx (keys L) last), .int .i64 0]) ∧ Tab w' p b (n + 1) room (turns + 1) (nx (keys L) last) (L ++ [(nx (keys L) last, k, turns)]) ∧ Ext (fun k => k = p ∨ k = b) w w' := by
  have ha := answer_ok k w
  rw [hk] at ha
  have hf15 : Fence.wide.fn 15 := trivial
  have hf14 : Fence.wide.fn 14 := trivial
  have hf16 : Fence.wide.fn 16 := trivial
  refine (callsIn_wide (n := 1)).1 ?_
  refine callsIn_of_wp Try.func7 rfl trivial ?_ rfl
  simp only [Try.ntmps7, List.size_toArray, List.length_cons, List.length_nil, Nat.reduceAdd, Nat.reduceSub, Array.replicate_succ, Array.replicate_zero, List.push_toArray, List.append_toArray, List.nil_append, List.cons_append]
  gi_wp2_with (fail)
  gi_at_call 14
  refine (callsIn_wide.2 ha).mono ?_
  rintro e w1 ⟨rfl, hw⟩
  have hw := hw.symm
  subst hw
  gi_wp2_with (fail)
  gi_at_call 15
  refine (callsIn_wide.2 (none_some h)).mono ?_
  rintro e w1 ⟨rfl, hw⟩
  have hw := hw.symm
  subst hw
  gi_wp2_with (fail)
  have hcls : ∀ w' : World, Below w.heap.size w w' → w'.cell? ⟨p, 0, none⟩ = some (.int .i64 room) ∧ w'.cell? ⟨p, 3, none⟩ = some (.map (some b)) ∧ (∀ ty, (Builtin.len_ #[49] ty #[.map (some b)]).run Try.prog w' = .ok (.int .i64 (L.length : Nat)) w') := fun w' hB => by
    have hE' : Ext (fun _ => False) w w' := Ext.of_below hB
    have hT' := h.keep hE' (fun h => h) (fun h => h)
    obtain ⟨D, hm, hM⟩ := hT'.map
    refine ⟨hT'.c0, hT'.c3, fun ty => ?_⟩
    rw [hm.len Try.underlying49, hM.size]
  refine wpIn_region_stg [.q 0 0, .q 1 0, .q 2 0, .q 3 0, .q 4 0, .q 5 0, .q 6 0, .q 7 0, .q 8 0, .q 9 0] []
      (fun _ w' => Below w.heap.size w w') (by kernel_rfl) (by kernel_rfl) (Below.refl _ w).drew ?_
  have hge : ¬ room ≤ (L.length : Int) := by omega
  repeat (
      refine wpStg_q (v := ?_) rfl (fun _ h => by cases h) (fun _ => rfl) rfl (fun c' w' hc' hw => ?_) ?_
      rotate_left
      · (obtain ⟨x1, x2, x3⟩ := hcls w' hw; first | (go_simp; done) | (go_simp; with_reducible rfl))
      try simp only [Act.put, List.getElem_toArray, List.getElem_cons_zero, List.getElem_cons_succ, List.setIfInBounds_toArray, List.set_cons_succ, List.set_cons_zero])
  refine wpStg_nil ?_
  have hX : Ext (fun _ => False) w w.drew := (Ext.refl _ w).drew
  have hT := h.keep hX (fun h => h) (fun h => h)
  have hE1 : Ext (fun k => k = p ∨ k = b) w w.drew := (Ext.refl _ w).drew
  clear hcls hX ha
  generalize w.drew = W at hT hE1 ⊢
  gi_wp2_with (fail)
  gi_at_call 16
  refine (callsIn_wide.2 (next_ok hT hr hl)).mono ?_
  rintro e W2 ⟨rfl, hT2, hE2⟩
  have hnew := nx_new (K := keys L) (x := last) (by simpa [keys] using hl)
  have hrg := nx_range (keys L) last
  replace hE1 : Ext (fun k => k = p ∨ k = b) w W2 := hE1.trans (hE2.mono (fun _ _ h => .inl h))
  clear hE2 hT h
  generalize hx : nx (keys L) last = x at hT2 hnew hrg ⊢
  gi_wp2_with (fail)
  obtain ⟨D, hown, hM⟩ := hT2.map
  have hne := hT2.ne
  have hlt := hT2.lt
  have hcls : ∀ w' : World, Ext (fun k => k = b) W2 w' → w'.cell? ⟨p, 1, none⟩ = some (.int .i64 turns) ∧ w'.cell? ⟨p, 3, none⟩ = some (.map (some b)) := fun w' hB =>
    ⟨(hB.cell (p := ⟨p, 1, none⟩) hlt hne).trans hT2.c1, (hB.cell (p := ⟨p, 3, none⟩) hlt hne).trans hT2.c3⟩
  refine wpIn_region_stg [.q 0 1, .q 1 1, .q 2 1, .q 3 1, .q 4 1, .q 5 1, .q 6 1, .q 7 1, .q 8 1, .q 9 1, .q 10 1, .l 11] [11]
      (fun _ w' => Ext (fun k => k = b) W2 w') (by kernel_rfl) (by kernel_rfl) ((Ext.refl _ W2).drew) ?_
  repeat (
      refine wpStg_q (v := ?_) rfl (fun _ h => by cases h) (fun _ => rfl) rfl (fun c' w' hc' hw => ?_) ?_
      rotate_left
      · (obtain ⟨x1, x3⟩ := hcls w' hw; first | (go_simp; done) | (go_simp; with_reducible rfl))
      try simp only [Act.put, List.getElem_toArray, List.getElem_cons_zero, List.getElem_cons_succ, List.setIfInBounds_toArray, List.set_cons_succ, List.set_cons_zero])
  refine wpStg_l rfl ?_
  refine wpListIn_mapUpdate_in _ rfl _ _ _ 49 rfl 22 55 key22 Try.underlying49 waitElem b n D rfl hown.drew (by show n < 9223372036854775807; omega) _ _ (ky x) rfl rfl (keyOf32 hrg) (wd (x, k, turns)) [] rfl ?_
  intro W3 hown3 hturn3
  have hT2d := hT2.keep ((Ext.refl (fun _ => False) W2).drew) (fun h => h) (fun h => h)
  have hT3 := hT2d.turned hturn3 hown3 (hM.put (e := (x, k, turns)) hnew.2)
  have hE3 : Ext (fun k => k = b) W2 W3 := ((Ext.refl _ W2).drew).trans (ext_turned hturn3)
  replace hE1 : Ext (fun k => k = p ∨ k = b) w W3 := hE1.trans (hE3.mono (fun _ _ h => .inr h))
  clear hturn3 hown3 hT2d hT2 hcls hM hown
  gi_wp2
  refine ⟨hE3, ?_⟩
  refine wpStg_nil ?_
  clear hE3
  have c1 := hT3.c1
  have f1 := hT3.fz 1
  gi_wp2
  go_ret2
  rw [hx]
  refine ⟨rfl, hT3.setTurns _, hE1.setCell (.inl (.inl rfl)) _⟩
end
end Go.Proofs.Ythminmcdkcnkpaa
