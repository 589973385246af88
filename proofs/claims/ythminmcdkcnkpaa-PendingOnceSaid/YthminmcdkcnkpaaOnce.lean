/- PendingOnce, walked. -/
import Derived.Test.YthminmcdkcnkpaaActs
namespace Go.Proofs.Ythminmcdkcnkpaa
open Go.RowKit Go.Maps
attribute [local go_sem] Oper.semAt_some

/-- Where the walk stands. -/
structure OS (w wr : World) (p b m : Nat) (k : Nat) (room turns last : Int) (L : List En) : Prop where
  tab : Tab wr p b k room turns last L
  map : Wm wr m k L
  ord : Ord L
  tl : ∀ e ∈ L, e.2.2 < turns
  t0 : 0 ≤ turns ∧ turns ≤ k
  lr : 0 ≤ last ∧ last < 4294967296
  len : L.length ≤ k
  room : (L.length : Int) ≤ room
  ext : Ext (fun k => w.heap.size ≤ k) w wr
  low : w.heap.size ≤ p ∧ w.heap.size ≤ b ∧ w.heap.size ≤ m ∧ b ≠ m ∧ p ≠ m

theorem OS.still {w wr wx : World} {p b m k : Nat} {room turns last : Int} {L : List En} (h : OS w wr p b m k room turns last L) (hx : Ext (fun _ => False) wr wx) : OS w wx p b m k room turns last L :=
  ⟨h.tab.keep hx (fun h => h) (fun h => h), h.map.keep hx (fun h => h), h.ord, h.tl, h.t0, h.lr, h.len, h.room, h.ext.trans (hx.mono (fun _ _ h => h.elim)), h.low⟩
theorem OS.next {w wr : World} {p b m k : Nat} {room turns last : Int} {L : List En} (h : OS w wr p b m k room turns last L) : OS w wr p b m (k + 1) room turns last L :=
  ⟨h.tab.mono (by omega), h.map.mono (by omega), h.ord, h.tl, by have := h.t0; omega, h.lr, by have := h.len; omega, h.room, h.ext, h.low⟩
theorem OS.same {w wr wx : World} {p b m k : Nat} {room turns last : Int} {L : List En} (h : OS w wr p b m k room turns last L) (hx : Ext (fun _ => False) wr wx) : OS w wx p b m (k + 1) room turns last L := (h.still hx).next
theorem OS.moved {w wr wx : World} {p b m k : Nat} {room turns last : Int} {L L' : List En} (h : OS w wr p b m k room turns last L) (hT : Tab wx p b k room turns last L') (hX : Ext (fun k => k = b) wr wx) (hW : Wm wx m k L') (hO : Ord L') (htl : ∀ e ∈ L', e.2.2 < turns) (hln : L'.length ≤ L.length) : OS w wx p b m (k + 1) room turns last L' :=
  OS.next ⟨hT, hW, hO, htl, h.t0, h.lr, Nat.le_trans hln h.len, by have := h.room; omega, h.ext.trans (hX.mono (fun k _ e => by have := h.low; omega)), h.low⟩
theorem OS.closed {w wr wx wz : World} {p b m k : Nat} {room turns last x : Int} {L : List En} (h : OS w wr p b m k room turns last L) (hT : Tab wx p b k room turns last (strike L x)) (hX : Ext (fun k => k = b) wr wx) (ht : wx.mapTurned wz m) (hW : Wm wz m k (strike L x)) : OS w wz p b m (k + 1) room turns last (strike L x) := by
  have hE := ext_turned ht
  have hlow := h.low
  exact OS.next ⟨hT.keep hE (by omega) (by omega), hW, h.ord.filter _, fun e he => h.tl e (mem_strike.1 he).1, h.t0, h.lr, Nat.le_trans (List.length_filter_le _ _) h.len, by
    have := h.room
    have h1 : (strike L x).length ≤ L.length := List.length_filter_le _ _
    omega, (h.ext.trans (hX.mono (fun k _ e => by omega))).trans (hE.mono (fun k _ e => by omega)), hlow⟩
theorem OS.opened {w wr wx wz : World} {p b m k : Nat} {room turns last y kind : Int} {L : List En} (h : OS w wr p b m k room turns last L) (hT : Tab wx p b (k + 1) room (turns + 1) y (L ++ [(y, kind, turns)])) (hX : Ext (fun k => k = p ∨ k = b) wr wx) (ht : wx.mapTurned wz m)
    (hW : Wm wz m (k + 1) (L ++ [(y, kind, turns)])) (hy : 0 ≤ y ∧ y < 4294967296) (hr : (L.length : Int) < room) : OS w wz p b m (k + 1) room (turns + 1) y (L ++ [(y, kind, turns)]) := by
  have hE := ext_turned ht
  have hlow := h.low
  have ht0 := h.t0
  have hlen := h.len
  refine ⟨hT.keep hE (by omega) (by omega), hW, List.pairwise_append.2 ⟨h.ord, List.pairwise_singleton _ _, fun a ha c hc => ?_⟩, fun e he => ?_, by omega, hy, by simp; omega, by simp; omega, (h.ext.trans (hX.mono (fun k _ e => ?_))).trans (hE.mono (fun k _ e => ?_)), hlow⟩
  · simp at hc; subst hc; exact h.tl a ha
  · rcases List.mem_append.1 he with he | he
    · have := h.tl e he; omega
    · simp at he; subst he; show turns < turns + 1; omega
  · rcases e with e | e <;> omega
  · omega

set_option maxRecDepth 40000 in
set_option maxHeartbeats 6400000 in
theorem once_ok {w : World} {v : Value} {l : List (Int × Int × Int × Int)} (hA : Acts w w.heap.size v l) (hl : l.length ≤ 9223372036854775807) (r : Int) (hr : 0 ≤ r ∧ r < 256) (last : Int) (hlast : 0 ≤ last ∧ last < 4294967296) :
    Calls Try.prog 3 #[.int .u8 r, .int .u32 last, v] w fun e w' => e = .returned (.bool true) ∧ Below w.heap.size w w' := by
  obtain ⟨q, cap, rfl, hc, h0⟩ := hA
  by_cases h100 : l.length ≤ 100
  · have hmm := @run_makeMap Try.prog
    have hf7 : Fence.wide.fn 7 := trivial
    have hf8 : Fence.wide.fn 8 := trivial
    have hf9 : Fence.wide.fn 9 := trivial
    have hf6 : Fence.wide.fn 6 := trivial
    have hf5 : Fence.wide.fn 5 := trivial
    refine (callsIn_wide (n := 1)).1 ?_
    refine callsIn_of_wp Try.func3 rfl trivial ?_ rfl
    simp only [Try.ntmps3, List.size_toArray, List.length_cons, List.length_nil, Nat.reduceAdd, Nat.reduceSub, Array.replicate_succ, Array.replicate_zero, List.push_toArray, List.append_toArray, List.nil_append, List.cons_append]
    have hrm : r % 256 = r := by omega
    gi_wp2_with (fail)
    gi_at_call 6
    refine (callsIn_wide.2 (new_ok (1 + r) last (by omega) w)).mono ?_
    rintro e w1 ⟨rfl, hT1, hB1⟩
    gi_wp2_with (fail)
    have hE1 : Ext (fun k => w.heap.size ≤ k) w w1 := Ext.of_below hB1
    have hlt1 := hT1.lt
    have hS0 : OS w (w1.alloc (.map #[] 0)) (w.heap.size + 1) w.heap.size w1.heap.size 0 (1 + r) 0 last [] := ⟨hT1.keep ((Ext.refl (fun _ => False) w1).alloc _) (fun h => h) (fun h => h), ⟨_, World.ownsMap_made w1 _ _ _, Mp.empty one⟩, List.Pairwise.nil, fun _ h => (by cases h), (by omega), hlast, (by simp), (by simp; omega), hE1.alloc _, (by omega)⟩
    clear hB1 hE1 hT1 hmm hrm
    generalize w.heap.size + 1 = p at hS0 hlt1 ⊢
    generalize w1.heap.size = m at hS0 hlt1 ⊢
    generalize w1.alloc (.map #[] 0) = W1 at hS0 ⊢
    have hroom : (1 + r) ≤ 256 := by omega
    gi_loopw [9] (fun i wr => ∃ k : Nat, k ≤ l.length ∧ i = .int .i64 k ∧ ∃ turns last L, OS w wr p w.heap.size m k (1 + r) turns last L) (fun i _ => (l.length - intOf i).toNat)
    case atStart => exact ⟨0, by omega, rfl, _, _, _, hS0⟩
    case round =>
      obtain ⟨k, hk, rfl, turns, la, L, hS⟩ := hrel
      clear hS0 hlast hlt1
      have hlow := hS.low
      by_cases hkn : k < l.length
      · obtain ⟨bo, off, rfl, ho1, ho2, g⟩ := h0 (by intro e; simp [e] at hkn)
        obtain ⟨⟨d, kind, near, x⟩, hx⟩ : ∃ x, l[k]? = some x := ⟨_, List.getElem?_eq_getElem hkn⟩
        obtain ⟨g0, g1, g2, g3, gx⟩ := g k _ hx
        simp only at g0 g1 g2 g3 gx
        clear g h0 g2
        have hka : (k : Int) < (l.length : Int) := by omega
        have hnb : ¬ w.heap.size ≤ bo := by omega
        have c0 := (hS.ext.cell (p := ⟨bo, off + k * 4, none⟩) ho1 hnb).trans g0
        have c1 := (hS.ext.cell (p := ⟨bo, off + k * 4 + 1, none⟩) ho1 hnb).trans g1
        have c3 := (hS.ext.cell (p := ⟨bo, off + k * 4 + 3, none⟩) ho1 hnb).trans g3
        clear g0 g1
        have hLk := hS.len
        by_cases hd : d = 0
        · subst hd
          by_cases hask : isAsk kind = true
          · by_cases hfull : (1 + r) ≤ (L.length : Int)
            · have hop := open_full hS.tab hask hfull
              gi_wp2_with (fail)
              gi_at_call 7
              refine (callsIn_wide.2 hop).mono ?_
              rintro e wx ⟨rfl, hX⟩
              replace hS := hS.same hX
              clear hop hX c0 c1 c3
              have hlist := list_ok hS.tab (by have := hS.len; omega) hS.ord
              gi_wp2_with (fail)
              gi_at_call 9
              refine (callsIn_wide.2 hlist).mono ?_
              rintro e wy ⟨vv, rfl, hrow, hY⟩
              obtain ⟨qq, cc, rfl⟩ := row_slice hrow
              clear hlist hrow
              replace hS := hS.still hY
              clear hY
              have hln := hS.map.len
              have hro := hS.room
              generalize hLL : (L).length = nL at hln hro ⊢
              gi_wp2
              go_roundw
              · exact ⟨k + 1, by omega, by go_num, _, _, _, hS⟩
              · simp [intOf]; omega

            · have hop := open_ok hS.tab hS.lr hask (by omega) (by omega) (by omega) (by have := hS.t0; omega)
              have hnew := nx_new (K := keys L) (x := la) (by simp [keys]; omega)
              have hrg := nx_range (keys L) la
              gi_wp2_with (fail)
              gi_at_call 7
              refine (callsIn_wide.2 hop).mono ?_
              rintro e wx ⟨rfl, hTx, hX⟩
              clear hop c0 c1 c3
              have hmx := hS.map.keep hX (by omega)
              generalize nx (keys L) la = y at hTx hnew hrg ⊢
              obtain ⟨hy0, hyk⟩ := hnew
              have hlk := hmx.look hrg
              rw [if_neg hyk] at hlk
              obtain ⟨D2, hown2, hM2⟩ := hmx
              gi_wp2_with (gi_at_mapUpdate; refine wpListIn_mapUpdate_in _ rfl _ _ _ 27 rfl 22 3 key22 Try.underlying27 (plainElem Try.prog 3) m k D2 rfl hown2 (by show k < 9223372036854775807; omega) _ _ (ky y) rfl rfl (keyOf32 hrg) (one (y, kind, turns)) [] (plainElem_int Try.underlying3 (by decide)) ?_; intro w3 hown3 hturn3)
              replace hS : OS w w3 p w.heap.size m (k + 1) (1 + r) (turns + 1) y (L ++ [(y, kind, turns)]) := hS.opened hTx hX hturn3 ⟨_, hown3, hM2.put (e := (y, kind, turns)) hyk⟩ hrg (by omega)
              clear hTx hX hturn3 hown3 hown2 hM2 hlk
              have hlist := list_ok hS.tab (by have := hS.len; omega) hS.ord
              gi_wp2_with (fail)
              gi_at_call 9
              refine (callsIn_wide.2 hlist).mono ?_
              rintro e wy ⟨vv, rfl, hrow, hY⟩
              obtain ⟨qq, cc, rfl⟩ := row_slice hrow
              clear hlist hrow
              replace hS := hS.still hY
              clear hY
              have hln := hS.map.len
              have hro := hS.room
              generalize hLL : (L ++ [(y, kind, turns)]).length = nL at hln hro ⊢
              gi_wp2
              go_roundw
              · exact ⟨k + 1, by omega, by go_num, _, _, _, hS⟩
              · simp [intOf]; omega

          · have hask : isAsk kind = false := by simpa using hask
            have hop := open_arg hS.tab hask
            gi_wp2_with (fail)
            gi_at_call 7
            refine (callsIn_wide.2 hop).mono ?_
            rintro e wx ⟨rfl, hw⟩
            have hw := hw.symm
            subst hw
            replace hS := hS.same (Ext.refl (fun _ => False) _)
            clear hop c0 c1 c3
            have hlist := list_ok hS.tab (by have := hS.len; omega) hS.ord
            gi_wp2_with (fail)
            gi_at_call 9
            refine (callsIn_wide.2 hlist).mono ?_
            rintro e wy ⟨vv, rfl, hrow, hY⟩
            obtain ⟨qq, cc, rfl⟩ := row_slice hrow
            clear hlist hrow
            replace hS := hS.still hY
            clear hY
            have hln := hS.map.len
            have hro := hS.room
            generalize hLL : (L).length = nL at hln hro ⊢
            gi_wp2
            go_roundw
            · exact ⟨k + 1, by omega, by go_num, _, _, _, hS⟩
            · simp [intOf]; omega

        · have hd0 : (d == 0) = false := by simp [hd]
          gi_wp2_with (fail)
          have hcls : ∀ w' : World, Ext (fun k => k = w.heap.size) wr w' → w'.cell? ⟨bo, off + k * 4 + 1, none⟩ = some (.int .i64 kind) ∧ w'.cell? ⟨bo, off + k * 4 + 3, none⟩ = some (.int .u32 x) := fun w' hB =>
            ⟨(hB.cell (p := ⟨bo, off + k * 4 + 1, none⟩) (World.block_lt_of_cell? _ _ c1) (show ¬ bo = w.heap.size by omega)).trans c1, (hB.cell (p := ⟨bo, off + k * 4 + 3, none⟩) (World.block_lt_of_cell? _ _ c3) (show ¬ bo = w.heap.size by omega)).trans c3⟩
          have hTd := hS.tab.keep ((Ext.refl (fun _ => False) wr).drew) (fun h => h) (fun h => h)
          have hcl := close_ok hTd gx kind
          refine wpIn_region_stg [.q 0 1, .q 1 1, .q 2 1, .q 3 1, .q 4 1, .q 5 1, .q 6 1, .q 7 1, .q 8 1, .q 9 1, .q 10 1, .l 11, .q 12 1] [11]
            (fun _ w' => Ext (fun k => k = w.heap.size) wr w') (by kernel_rfl) (by kernel_rfl) ((Ext.refl _ wr).drew) ?_
          repeat (
            refine wpStg_q (v := ?_) rfl (fun _ h => by cases h) (fun _ => rfl) rfl (fun c' w' hc' hw => ?_) ?_
            rotate_left
            · (obtain ⟨z1, z3⟩ := hcls w' hw; first | (go_simp; done) | (go_simp; with_reducible rfl))
            try simp only [Act.put, List.getElem_toArray, List.getElem_cons_zero, List.getElem_cons_succ, List.setIfInBounds_toArray, List.set_cons_succ, List.set_cons_zero])
          refine wpStg_l rfl ?_
          gi_wp2_with (gi_at_call 8; refine (callsIn_wide.2 hcl).mono ?_; rintro e wx ⟨rfl, hTx, hX⟩; clear hcl)
          replace hX : Ext (fun k => k = w.heap.size) wr wx := ((Ext.refl _ wr).drew).trans hX
          refine ⟨hX, ?_⟩
          obtain ⟨c1x, c3x⟩ := hcls wx hX
          have hmx := hS.map.keep hX (by omega)
          clear hcls c0 c1 c3 hTd
          repeat (
            refine wpStg_q (v := ?_) rfl (fun _ h => by cases h) (fun _ => rfl) rfl (fun c' w' hc' hw => ?_) ?_
            rotate_left
            · (first | (go_simp; done) | (go_simp; with_reducible rfl))
            try simp only [Act.put, List.getElem_toArray, List.getElem_cons_zero, List.getElem_cons_succ, List.setIfInBounds_toArray, List.set_cons_succ, List.set_cons_zero])
          refine wpStg_nil ?_
          have hlk := hmx.look gx
          by_cases hm : x ∈ keys L
          · by_cases ha : ansOf (valAt L x).1 = kind
            · rw [show closeL L x kind = strike L x by simp [closeL, hm, ha]] at hTx
              rw [show closeCode L x kind = 0 by simp [closeCode, hm, ha]]
              rw [if_pos hm] at hlk
              obtain ⟨D2, hown2, hM2⟩ := hmx
              gi_wp2_with (gi_at_delete; refine wpListIn_delete_own _ rfl _ _ 27 22 rfl 3 key22 Try.underlying27 (plainElem Try.prog 3) m k D2 rfl hown2 _ _ rfl (keyOf32 gx) ?_; intro w3 hown3 hturn3)
              replace hS := hS.closed hTx hX hturn3 ⟨_, hown3, hM2.del x⟩
              clear hTx hX hturn3 hown3 hown2 hM2 hlk c1x c3x
              have hlist := list_ok hS.tab (by have := hS.len; omega) hS.ord
              gi_wp2_with (fail)
              gi_at_call 9
              refine (callsIn_wide.2 hlist).mono ?_
              rintro e wy ⟨vv, rfl, hrow, hY⟩
              obtain ⟨qq, cc, rfl⟩ := row_slice hrow
              clear hlist hrow
              replace hS := hS.still hY
              clear hY
              have hln := hS.map.len
              have hro := hS.room
              generalize hLL : (strike L x).length = nL at hln hro ⊢
              gi_wp2
              go_roundw
              · exact ⟨k + 1, by omega, by go_num, _, _, _, hS⟩
              · simp [intOf]; omega

            · rw [show closeL L x kind = L by simp [closeL, hm, ha]] at hTx
              rw [show closeCode L x kind = 10001 by simp [closeCode, hm, ha]]
              replace hS := hS.moved hTx hX hmx hS.ord hS.tl (Nat.le_refl _)
              gi_wp2_with (fail)
              clear hTx hX hmx hlk c1x c3x
              have hlist := list_ok hS.tab (by have := hS.len; omega) hS.ord
              gi_wp2_with (fail)
              gi_at_call 9
              refine (callsIn_wide.2 hlist).mono ?_
              rintro e wy ⟨vv, rfl, hrow, hY⟩
              obtain ⟨qq, cc, rfl⟩ := row_slice hrow
              clear hlist hrow
              replace hS := hS.still hY
              clear hY
              have hln := hS.map.len
              have hro := hS.room
              generalize hLL : (L).length = nL at hln hro ⊢
              gi_wp2
              go_roundw
              · exact ⟨k + 1, by omega, by go_num, _, _, _, hS⟩
              · simp [intOf]; omega

          · rw [show closeL L x kind = L by simp [closeL, hm]] at hTx
            rw [show closeCode L x kind = 10004 by simp [closeCode, hm]]
            rw [if_neg hm] at hlk
            replace hS := hS.moved hTx hX hmx hS.ord hS.tl (Nat.le_refl _)
            gi_wp2_with (fail)
            clear hTx hX hmx hlk c1x c3x
            have hlist := list_ok hS.tab (by have := hS.len; omega) hS.ord
            gi_wp2_with (fail)
            gi_at_call 9
            refine (callsIn_wide.2 hlist).mono ?_
            rintro e wy ⟨vv, rfl, hrow, hY⟩
            obtain ⟨qq, cc, rfl⟩ := row_slice hrow
            clear hlist hrow
            replace hS := hS.still hY
            clear hY
            have hln := hS.map.len
            have hro := hS.room
            generalize hLL : (L).length = nL at hln hro ⊢
            gi_wp2
            go_roundw
            · exact ⟨k + 1, by omega, by go_num, _, _, _, hS⟩
            · simp [intOf]; omega

      · gi_wp2_with (fail)
        gi_at_call 5
        refine (callsIn_wide.2 (sure_ok wr)).mono ?_
        rintro e wx ⟨rfl, hB⟩
        gi_wp2
        go_ret
        exact ⟨rfl, (hS.ext.trans2 (Ext.of_below (S := fun _ => False) hB) (fun _ _ h => h.elim)).below (Nat.le_refl _) (fun k h1 h2 => by omega)⟩
  · go_enter Try.func3, Try.ntmps3
    go_wp2_with fail
    go_at_call 5
    refine (sure_ok w).mono ?_
    rintro e w1 ⟨rfl, hB⟩
    go_wp2
    go_ret
    exact ⟨rfl, hB⟩
end Go.Proofs.Ythminmcdkcnkpaa
