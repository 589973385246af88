/- PendingDoes, walked. -/
import Derived.Test.YthminmcdkcnkpaaOpAll
namespace Go.Proofs.Ythminmcdkcnkpaa
open Go.RowKit Go.Maps
attribute [local go_sem] Oper.semAt_some

/-- Where the walk stands. -/
structure DS (w wr : World) (B p b k : Nat) (room turns last : Int) (L : List En) (v : Value) : Prop where
  st : St w.heap.size B wr wr p b k room turns last L v
  bx : Bx wr B room last v
  ext : Ext (fun j => w.heap.size ≤ j) w wr
  hb : w.heap.size ≤ B

section
variable {w wr wx : World} {B p b k p' b' k' : Nat} {room turns last turns' last' : Int} {L L' : List En} {v v' : Value}
theorem DS.still (h : DS w wr B p b k room turns last L v) (hx : Ext (fun _ => False) wr wx) : DS w wx B p b k room turns last L v :=
  ⟨⟨h.st.tab.keep hx (fun h => h) (fun h => h), h.st.rl.keep hx (fun _ _ h => h.elim), h.st.ord, h.st.tl, h.st.wf, h.st.t0, h.st.lr, h.st.len, Ext.refl _ _, by have := h.st.low; have := hx.size; omega⟩,
    h.bx.keep hx (fun h => h), h.ext.trans (hx.mono (fun _ _ h => h.elim)), h.hb⟩
theorem DS.moved (h : DS w wr B p b k room turns last L v) (hS : St w.heap.size B wr wx p' b' k' room turns' last' L' v') :
    DS w (((wx.setCell ⟨B, 0, none⟩ (.int .i64 room)).setCell ⟨B, 1, none⟩ (.int .u32 last')).setCell ⟨B, 2, none⟩ v') B p' b' k' room turns' last' L' v' := by
  have hE : Ext (fun j => j = B) wx (((wx.setCell ⟨B, 0, none⟩ (.int .i64 room)).setCell ⟨B, 1, none⟩ (.int .u32 last')).setCell ⟨B, 2, none⟩ v') := ext_set3 _ _ _
  have hlow := hS.low
  have hsz := hS.ext.size
  have hes := hE.size
  have hb := h.hb
  refine ⟨⟨hS.tab.keep hE (by omega) (by omega), hS.rl.keep hE (fun j _ hj => by omega), hS.ord, hS.tl, hS.wf, hS.t0, hS.lr, hS.len, Ext.refl _ _, by omega⟩, (h.bx.keep hS.ext (by omega)).set3 _ _ _, (h.ext.trans (hS.ext.mono (fun j _ hj => by omega))).trans (hE.mono (fun j _ hj => by omega)), hb⟩
end

set_option maxRecDepth 40000 in
set_option maxHeartbeats 6400000 in
theorem does_ok {w : World} {v : Value} {l : List (Int × Int × Int × Int)} (hA : Acts w w.heap.size v l) (hl : l.length ≤ 9223372036854775807) (room : Int) (last : Int) (hlast : 0 ≤ last ∧ last < 4294967296) :
    Calls Try.prog 4 #[.int .i64 room, .int .u32 last, v] w fun e w' => e = .returned (.bool true) ∧ Below w.heap.size w w' := by
  obtain ⟨q, cap, rfl, hc, h0⟩ := hA
  by_cases h100 : l.length ≤ 100
  · have hf6 : Fence.wide.fn 6 := trivial
    have hf5 : Fence.wide.fn 5 := trivial
    have hf9 : Fence.wide.fn 9 := trivial
    have hf10 : Fence.wide.fn 10 := trivial
    have hf11 : Fence.wide.fn 11 := trivial
    have hf12 : Fence.wide.fn 12 := trivial
    have hf13 : Fence.wide.fn 13 := trivial
    refine (callsIn_wide (n := 1)).1 ?_
    refine callsIn_of_wp Try.func4 rfl trivial ?_ rfl
    simp only [Try.ntmps4, List.size_toArray, List.length_cons, List.length_nil, Nat.reduceAdd, Nat.reduceSub, Array.replicate_succ, Array.replicate_zero, List.push_toArray, List.append_toArray, List.nil_append, List.cons_append]
    by_cases hroom : room < 1 ∨ 256 < room
    · gi_wp2_with (fail)
      gi_at_call 6
      refine (callsIn_wide.2 (new_none room last hroom w)).mono ?_
      rintro e w1 ⟨rfl, hw⟩
      have hw := hw.symm
      subst hw
      rcases hroom with hroom | hroom
      · gi_wp2_with (fail)
        gi_at_call 5
        refine (callsIn_wide.2 (sure_ok w)).mono ?_
        rintro e wx ⟨rfl, hB⟩
        gi_wp2
        go_ret
        exact ⟨rfl, hB⟩
      · have hroom' : ¬ room < 1 := by omega
        gi_wp2_with (fail)
        gi_at_call 5
        refine (callsIn_wide.2 (sure_ok w)).mono ?_
        rintro e wx ⟨rfl, hB⟩
        gi_wp2
        go_ret
        exact ⟨rfl, hB⟩
    · have hr1 : ¬ room < 1 := by omega
      have hr2 : ¬ 256 < room := by omega
      clear hroom
      gi_wp2_with (fail)
      gi_at_call 6
      refine (callsIn_wide.2 (new_ok room last (by omega) w)).mono ?_
      rintro e w1 ⟨rfl, hT1, hB1⟩
      have hE1 : Ext (fun k => w.heap.size ≤ k) w w1 := Ext.of_below hB1
      have hlt1 := hT1.lt
      have hlb1 := hT1.blt
      gi_wp2_with (fail)
      have hS0 : DS w (w1.alloc (.cells #[.int .i64 room, .int .u32 last, .slice none 0 0] 39)) w1.heap.size (w.heap.size + 1) w.heap.size 0 room 0 last [] (.slice none 0 0) :=
        ⟨⟨hT1.keep ((Ext.refl (fun _ => False) w1).alloc _) (fun h => h) (fun h => h), Rl.nil _ _ _, List.Pairwise.nil, fun _ h => (by cases h), fun _ h => (by cases h), (by omega), hlast, (by simp), Ext.refl _ _, ⟨by omega, by omega, by omega, by omega, by simp⟩⟩, Bx.of_obj (MapKept.heap_alloc w1 _).1, hE1.alloc _, by omega⟩
      clear hB1 hE1 hT1
      generalize w.heap.size + 1 = p at hS0 ⊢
      generalize w1.alloc (.cells #[.int .i64 room, .int .u32 last, .slice none 0 0] 39) = W1 at hS0 ⊢
      generalize hBB : w1.heap.size = B at hS0 ⊢
      clear hlt1 hlb1 hBB
      gi_loopw [7, 9] (fun tv i wr => ∃ k : Nat, k ≤ l.length ∧ i = .int .i64 k ∧ ∃ p b turns last L v, tv = .pointer (some ⟨p, 0, none⟩) ∧ DS w wr B p b k room turns last L v) (fun _ i _ => (l.length - intOf i).toNat)
      case atStart => exact ⟨0, by omega, rfl, _, _, _, _, _, _, rfl, hS0⟩
      case round =>
        obtain ⟨k, hk, rfl, p, b, turns, la, L, v, rfl, hS⟩ := hrel
        clear hS0 hlast
        have hBl := hS.hb
        have hsz := hS.ext.size
        have hBlt := hS.bx.lt
        by_cases hkn : k < l.length
        · obtain ⟨bo, off, rfl, ho1, ho2, g⟩ := h0 (by intro e; simp [e] at hkn)
          obtain ⟨⟨d, kind, near, x⟩, hx⟩ : ∃ x, l[k]? = some x := ⟨_, List.getElem?_eq_getElem hkn⟩
          obtain ⟨g0, g1, g2, g3, gx⟩ := g k _ hx
          simp only at g0 g1 g2 g3 gx
          clear g h0
          have hka : (k : Int) < (l.length : Int) := by omega
          have hact : ∀ w' : World, Ext (fun j => w.heap.size ≤ j) w w' → w'.cell? ⟨bo, off + k * 4, none⟩ = some (.int .i64 d) ∧ w'.cell? ⟨bo, off + k * 4 + 1, none⟩ = some (.int .i64 kind) ∧ w'.cell? ⟨bo, off + k * 4 + 2, none⟩ = some (.int .i64 near) ∧ w'.cell? ⟨bo, off + k * 4 + 3, none⟩ = some (.int .u32 x) := fun w' he =>
            ⟨(he.cell (p := ⟨bo, off + k * 4, none⟩) ho1 (show ¬ w.heap.size ≤ bo by omega)).trans g0, (he.cell (p := ⟨bo, off + k * 4 + 1, none⟩) ho1 (show ¬ w.heap.size ≤ bo by omega)).trans g1, (he.cell (p := ⟨bo, off + k * 4 + 2, none⟩) ho1 (show ¬ w.heap.size ≤ bo by omega)).trans g2, (he.cell (p := ⟨bo, off + k * 4 + 3, none⟩) ho1 (show ¬ w.heap.size ≤ bo by omega)).trans g3⟩
          clear g0 g1 g2 g3
          have hop := op_ok (hS.still ((Ext.refl _ wr).drew)).st (by omega) d kind near x gx
          have hcls : ∀ (c' : Nat) (w' : World), Ext (fun j => c' ≠ 0 ∧ w.heap.size ≤ j) wr w' → w'.cell? ⟨bo, off + k * 4, none⟩ = some (.int .i64 d) ∧ w'.cell? ⟨bo, off + k * 4 + 1, none⟩ = some (.int .i64 kind) ∧ w'.cell? ⟨bo, off + k * 4 + 2, none⟩ = some (.int .i64 near) ∧ w'.cell? ⟨bo, off + k * 4 + 3, none⟩ = some (.int .u32 x) := fun c' w' hw => hact w' (hS.ext.trans (hw.mono (fun _ _ hj => hj.2)))
          have hbox : ∀ (c' : Nat) (w' : World), c' ≤ 0 → Ext (fun j => c' ≠ 0 ∧ w.heap.size ≤ j) wr w' → w'.cell? ⟨B, 0, none⟩ = some (.int .i64 room) ∧ w'.cell? ⟨B, 1, none⟩ = some (.int .u32 la) ∧ w'.cell? ⟨B, 2, none⟩ = some v := fun c' w' h1 hw => by
            have := hS.bx.keep hw (by omega)
            exact ⟨this.c0, this.c1, this.c2⟩
          gi_wp2_with (fail)
          refine wpIn_region_stg [.q 0 2, .q 1 0, .q 2 2, .q 3 2, .q 4 2, .q 5 2, .l 6, .q 7 2, .q 8 2, .q 9 2, .q 10 2, .q 11 2, .l 12, .q 13 2] [6, 12]
            (fun c w' => Ext (fun j => c ≠ 0 ∧ w.heap.size ≤ j) wr w') (by kernel_rfl) (by kernel_rfl) ((Ext.refl _ wr).drew) ?_
          refine wpStg_q (v := ?_) rfl (fun _ h => by cases h) (fun _ => rfl) rfl (fun c' w' hc' hw => ?_) ?_
          rotate_left
          · (first | (go_simp; done) | (go_simp; with_reducible rfl))
          try simp only [Act.put, List.getElem_toArray, List.getElem_cons_zero, List.getElem_cons_succ, List.setIfInBounds_toArray, List.set_cons_succ, List.set_cons_zero]
          refine wpStg_q (v := ?_) rfl (fun _ h => by cases h) (fun _ => rfl) rfl (fun c' w' hc' hw => ?_) ?_
          rotate_left
          · (obtain ⟨z1, z2, z3⟩ := hbox c' w' hc' hw; first | (go_simp; done) | (go_simp; with_reducible rfl))
          try simp only [Act.put, List.getElem_toArray, List.getElem_cons_zero, List.getElem_cons_succ, List.setIfInBounds_toArray, List.set_cons_succ, List.set_cons_zero]
          repeat (
            refine wpStg_q (v := ?_) rfl (fun _ h => by cases h) (fun _ => rfl) rfl (fun c' w' hc' hw => ?_) ?_
            rotate_left
            · (obtain ⟨z1, z2, z3, z4⟩ := hcls c' w' hw; first | (go_simp; done) | (go_simp; with_reducible rfl))
            try simp only [Act.put, List.getElem_toArray, List.getElem_cons_zero, List.getElem_cons_succ, List.setIfInBounds_toArray, List.set_cons_succ, List.set_cons_zero])
          refine wpStg_l rfl ?_
          gi_wp2_with (gi_at_call 10; refine (callsIn_wide.2 hop).mono ?_; rintro e wx ⟨p', b', turns', la', L', v', rfl, hS'⟩)
          have hS1 : St w.heap.size B wr wx p' b' (k + 1) room turns' la' L' v' := ⟨hS'.tab, hS'.rl, hS'.ord, hS'.tl, hS'.wf, hS'.t0, hS'.lr, hS'.len, ((Ext.refl _ wr).drew).trans hS'.ext, hS'.low⟩
          obtain ⟨q', cap', ev', _⟩ := id hS1.rl
          subst ev'
          have hD := hS.moved hS1
          have hbx := hS.bx.keep hS1.ext (by omega)
          refine ⟨hS1.ext.mono (fun j _ hj => ⟨by omega, by omega⟩), ?_⟩
          clear hop hcls hbox hS'
          have hxs := hS1.ext.size
          have c0 := hbx.c0
          have c1 := hbx.c1
          have c2 := hbx.c2
          have u0 := hbx.fz 0
          have u1 := hbx.fz 1
          have u2 := hbx.fz 2
          have hE1 : Ext (fun j => w.heap.size ≤ j) wr (((wx.setCell ⟨B, 0, none⟩ (.int .i64 room)).setCell ⟨B, 1, none⟩ (.int .u32 la')).setCell ⟨B, 2, none⟩ (.slice q' L'.length cap')) := (hS1.ext.mono (fun j _ hj => hj.1)).trans ((ext_set3 (B := B) _ _ _).mono (fun j _ hj => by omega))
          repeat (
            refine wpStg_q (v := ?_) rfl (fun _ h => by cases h) (fun _ => rfl) rfl (fun c' w' hc' hw => ?_) ?_
            rotate_left
            · (first | (go_simp; done) | (go_simp; with_reducible rfl))
            try simp only [Act.put, List.getElem_toArray, List.getElem_cons_zero, List.getElem_cons_succ, List.setIfInBounds_toArray, List.set_cons_succ, List.set_cons_zero])
          refine wpStg_l rfl ?_
          gi_wp2
          clear c0 c1 c2 u0 u1 u2 hE1 hbx hS1
          generalize ((wx.setCell ⟨B, 0, none⟩ (.int .i64 room)).setCell ⟨B, 1, none⟩ (.int .u32 la')).setCell ⟨B, 2, none⟩ (.slice q' L'.length cap') = W3 at hD ⊢
          clear hS hsz hBlt hxs
          repeat (
            refine wpStg_q (v := ?_) rfl (fun _ h => by cases h) (fun _ => rfl) rfl (fun c' w' hc' hw => ?_) ?_
            rotate_left
            · (first | (go_simp; done) | (go_simp; with_reducible rfl))
            try simp only [Act.put, List.getElem_toArray, List.getElem_cons_zero, List.getElem_cons_succ, List.setIfInBounds_toArray, List.set_cons_succ, List.set_cons_zero])
          refine wpStg_nil ?_
          have hlen := hD.st.len
          have hlist := list_ok (hD.still ((Ext.refl _ W3).drew)).st.tab (by omega) hD.st.ord
          have hbox : ∀ (w' : World), Ext (fun _ => False) W3 w' → w'.cell? ⟨B, 0, none⟩ = some (.int .i64 room) ∧ w'.cell? ⟨B, 1, none⟩ = some (.int .u32 la') ∧ w'.cell? ⟨B, 2, none⟩ = some (.slice q' L'.length cap') := fun w' hw => by
            have := hD.bx.keep hw (fun h => h)
            exact ⟨this.c0, this.c1, this.c2⟩
          gi_wp2_with (fail)
          refine wpIn_region_stg [.q 0 2, .q 1 2, .q 2 2, .q 3 2, .q 4 2, .q 5 2, .q 6 2, .q 7 2, .q 9 2, .l 8, .l 10, .q 11 2, .q 12 2] [8, 10]
            (fun _ w' => Ext (fun _ => False) W3 w') (by kernel_rfl) (by kernel_rfl) ((Ext.refl _ W3).drew) ?_
          repeat (
            refine wpStg_q (v := ?_) rfl (fun _ h => by cases h) (fun _ => rfl) rfl (fun c' w' hc' hw => ?_) ?_
            rotate_left
            · (obtain ⟨z1, z2, z3⟩ := hbox w' hw; first | (go_simp; done) | (go_simp; with_reducible rfl))
            try simp only [Act.put, List.getElem_toArray, List.getElem_cons_zero, List.getElem_cons_succ, List.setIfInBounds_toArray, List.set_cons_succ, List.set_cons_zero])
          refine wpStg_l rfl ?_
          gi_wp2_with (gi_at_call 9; refine (callsIn_wide.2 hlist).mono ?_; rintro e W4 ⟨u, rfl, hrow, hY⟩)
          replace hY : Ext (fun _ => False) W3 W4 := ((Ext.refl _ W3).drew).trans hY
          refine ⟨hY, ?_⟩
          have hD4 := hD.still hY
          have hsame := same_ok hrow hD4.st.rl room la' (by omega)
          refine wpStg_l rfl ?_
          gi_wp2_with (gi_at_call 11; refine (callsIn_wide.2 hsame).mono ?_; rintro e W5 ⟨rfl, hB5⟩)
          have hY5 : Ext (fun _ => False) W4 W5 := Ext.of_below hB5
          refine ⟨hY.trans hY5, ?_⟩
          have hD5 := hD4.still hY5
          clear hlist hsame hrow hB5 hY hY5 hD4 hbox hD
          repeat (
            refine wpStg_q (v := ?_) rfl (fun _ h => by cases h) (fun _ => rfl) rfl (fun c' w' hc' hw => ?_) ?_
            rotate_left
            · (first | (go_simp; done) | (go_simp; with_reducible rfl))
            try simp only [Act.put, List.getElem_toArray, List.getElem_cons_zero, List.getElem_cons_succ, List.setIfInBounds_toArray, List.set_cons_succ, List.set_cons_zero])
          refine wpStg_nil ?_
          obtain ⟨a0, a1, a2, a3⟩ := hact W5 hD5.ext
          have hkd := kind_ok hD5.st.tab gx
          clear a0 a1 a2
          gi_wp2_with (fail)
          gi_at_call 12
          refine (callsIn_wide.2 hkd).mono ?_
          rintro e W6 ⟨rfl, hY6⟩
          have hD6 := hD5.still hY6
          clear hkd hD5 hY6 a3
          have hfd := find_ok (hD6.still ((Ext.refl _ W6).drew)).st.rl room la' x (by omega)
          have hbox : ∀ (w' : World), Ext (fun _ => False) W6 w' → w'.cell? ⟨B, 0, none⟩ = some (.int .i64 room) ∧ w'.cell? ⟨B, 1, none⟩ = some (.int .u32 la') ∧ w'.cell? ⟨B, 2, none⟩ = some (.slice q' L'.length cap') ∧ w'.cell? ⟨bo, off + k * 4 + 3, none⟩ = some (.int .u32 x) := fun w' hw => by
            have := hD6.bx.keep hw (fun h => h)
            exact ⟨this.c0, this.c1, this.c2, (hact w' (hD6.ext.trans (hw.mono (fun _ _ h => h.elim)))).2.2.2⟩
          gi_wp2_with (fail)
          refine wpIn_region_stg [.q 0 1, .q 1 1, .q 2 1, .q 3 1, .q 4 1, .q 5 1, .l 6, .q 7 1] [6]
            (fun _ w' => Ext (fun _ => False) W6 w') (by kernel_rfl) (by kernel_rfl) ((Ext.refl _ W6).drew) ?_
          repeat (
            refine wpStg_q (v := ?_) rfl (fun _ h => by cases h) (fun _ => rfl) rfl (fun c' w' hc' hw => ?_) ?_
            rotate_left
            · (obtain ⟨z1, z2, z3, z4⟩ := hbox w' hw; first | (go_simp; done) | (go_simp; with_reducible rfl))
            try simp only [Act.put, List.getElem_toArray, List.getElem_cons_zero, List.getElem_cons_succ, List.setIfInBounds_toArray, List.set_cons_succ, List.set_cons_zero])
          refine wpStg_l rfl ?_
          gi_wp2_with (gi_at_call 13; refine (callsIn_wide.2 hfd).mono ?_; rintro e W7 ⟨rfl, hB7⟩)
          have hY7 : Ext (fun _ => False) W6 W7 := ((Ext.refl _ W6).drew).trans (Ext.of_below hB7)
          refine ⟨hY7, ?_⟩
          have hD7 := hD6.still hY7
          clear hfd hbox hB7 hY7 hD6
          repeat (
            refine wpStg_q (v := ?_) rfl (fun _ h => by cases h) (fun _ => rfl) rfl (fun c' w' hc' hw => ?_) ?_
            rotate_left
            · (first | (go_simp; done) | (go_simp; with_reducible rfl))
            try simp only [Act.put, List.getElem_toArray, List.getElem_cons_zero, List.getElem_cons_succ, List.setIfInBounds_toArray, List.set_cons_succ, List.set_cons_zero])
          refine wpStg_nil ?_
          have b2 := hD7.bx.c2
          by_cases hm : x ∈ keys L'
          · have hix : (keys L').idxOf x < L'.length := by
              have := List.idxOf_lt_length_iff.2 hm
              simpa [keys] using this
            obtain ⟨en, hen⟩ : ∃ e, L'[(keys L').idxOf x]? = some e := ⟨_, List.getElem?_eq_getElem hix⟩
            have hex : en.1 = x := by
              have hk0 : ∀ i : Nat, L'[i]? = some en → (keys L')[i]? = some en.1 := fun i h => by simp [keys, h]
              have hkk := hk0 _ hen
              rw [List.getElem?_eq_getElem (by simpa [keys] using hix), List.getElem_idxOf] at hkk
              injection hkk with hkk
              exact hkk.symm
            obtain ⟨_, _, ev, _, hrl⟩ := hD7.st.rl
            cases ev
            obtain ⟨bq, oq, rfl, _, _, hcl⟩ := hrl (by intro e; simp [e, keys] at hm)
            have hce := (hcl _ _ hen).2
            clear hcl hrl
            rw [val_mem hD7.st.nd (List.mem_of_getElem? hen) hex]
            rw [show findI L' x = ((keys L').idxOf x : Nat) by simp [findI, hm]]
            simp only [hm, decide_true]
            have hia : ((List.idxOf x (keys L') : Nat) : Int) < (L'.length : Int) := by omega
            generalize (keys L').idxOf x = ix at *
            gi_wp2
            go_roundw
            · exact ⟨k + 1, by omega, by go_num, _, _, _, _, _, _, rfl, hD7⟩
            · simp [intOf]; omega
          · rw [val_none hm, findI_none hm]
            simp only [hm, decide_false]
            gi_wp2
            go_roundw
            · exact ⟨k + 1, by omega, by go_num, _, _, _, _, _, _, rfl, hD7⟩
            · simp [intOf]; omega
        · gi_wp2_with (fail)
          gi_at_call 5
          refine (callsIn_wide.2 (sure_ok wr)).mono ?_
          rintro e wx ⟨rfl, hB⟩
          gi_wp2
          go_ret
          exact ⟨rfl, (hS.ext.trans2 (Ext.of_below (S := fun _ => False) hB) (fun _ _ h => h.elim)).below (Nat.le_refl _) (fun k h1 h2 => by omega)⟩
  · go_enter Try.func4, Try.ntmps4
    go_wp2_with fail
    go_at_call 5
    refine (sure_ok w).mono ?_
    rintro e w1 ⟨rfl, hB⟩
    go_wp2
    go_ret
    exact ⟨rfl, hB⟩
end Go.Proofs.Ythminmcdkcnkpaa
