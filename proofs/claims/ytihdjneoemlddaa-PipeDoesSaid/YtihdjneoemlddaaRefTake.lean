/- What the document's Take does. -/
import Derived.Test.YtihdjneoemlddaaRef
import Derived.Deep.RegionLaw
import Derived.BigQuiet
namespace Go.Proofs.Ytihdjneoemlddaa
open Go.RowKit Go.Conc

theorem tk_cons (n : Nat) (y : Int) (f : List Int) (ps : List (List Int)) : tk (n + 1) (y :: f) ps = (y :: (tk n f ps).1, (tk n f ps).2) := by
  cases ps with
  | nil => simp [tk]
  | cons z ps =>
    simp only [tk, List.length_cons, Nat.add_le_add_iff_right, Nat.add_sub_add_right]
    split <;> simp

/-- One byte is taken by the document. -/
theorem like_one {x : List Int} {t : Nat} {L : List (List Int)} {first : List Int} {pieces : List (List Int)} (h : Like (x :: L) t first pieces) (hx : x ≠ []) :
    ∃ y, x[t]? = some y ∧ t < x.length ∧ ∀ n, ∃ f ps, Like (if t + 1 = x.length then L else x :: L) (if t + 1 = x.length then 0 else t + 1) f ps ∧ tk (n + 1) first pieces = (y :: (tk n f ps).1, (tk n f ps).2) ∧
      f.length + total ps + 1 = first.length + total pieces ∧ (∀ l ∈ ps, l ∈ pieces) := by
  have hlt : t < x.length := by
    rcases h.or with ⟨rfl, _, _⟩ | ⟨x', _, h2, e, _⟩
    · exact Nat.pos_of_ne_zero fun e => hx (List.length_eq_zero_iff.1 e)
    · cases e; exact h2
  refine ⟨x[t], List.getElem?_eq_getElem hlt, hlt, fun n => ?_⟩
  have hd : x.drop t = x[t] :: x.drop (t + 1) := List.drop_eq_getElem_cons hlt
  have key : ∀ ps, Like (if t + 1 = x.length then ps else x :: ps) (if t + 1 = x.length then 0 else t + 1) (x.drop (t + 1)) ps := fun ps => by
    split
    · rename_i e
      exact ⟨.inl ⟨rfl, by rw [e]; simp, rfl⟩⟩
    · exact ⟨.inr ⟨x, by omega, by omega, rfl, rfl⟩⟩
  rcases h.or with ⟨rfl, rfl, rfl⟩ | ⟨x', _, h2, e, rfl⟩
  · refine ⟨_, L, key L, ?_, ?_, fun l hl => by simp [hl]⟩
    · have hx0 : x = x[0] :: x.drop 1 := by simpa using hd
      rw [tk_load _ _ (by omega)]
      conv => lhs; rw [hx0]
      exact tk_cons _ _ _ _
    · simp [total]; omega
  · cases e
    refine ⟨_, L, key L, ?_, ?_, fun l hl => hl⟩
    · rw [hd, tk_cons]
    · rw [hd]; simp; omega

theorem mem_of_drop {L L' : List (List Int)} (h : ∃ d, L' = L.drop d) {x : List Int} (hx : x ∈ L') : x ∈ L := by
  obtain ⟨d, rfl⟩ := h
  exact List.mem_of_mem_drop hx
theorem drop_tail {L L' : List (List Int)} {x : List Int} (h : ∃ d, x :: L' = L.drop d) : ∃ d, L' = L.drop d := by
  obtain ⟨d, h⟩ := h
  refine ⟨d + 1, ?_⟩
  rw [← List.drop_drop, ← h]
  rfl
theorem total_drop_le (L : List (List Int)) (d : Nat) : total (L.drop d) ≤ total L := by
  induction L generalizing d with
  | nil => simp
  | cons x L ih =>
    cases d with
    | zero => simp
    | succ d => simp only [List.drop_succ_cons, total]; have := ih d; omega

theorem step_append_bs {ops : Array Oper} {o : Oper} {a : Act} {w : World} {K : Act → World → Prop} {Q : Exit → Act → World → Prop} {E : Prop} (hg : o.guard = none) (s x : Operand)
    (ho : o.op = .call { callee := .builtin .append, args := #[s, x], argTypes := #[30, 30] }) (base : Nat)
    (v : Value) (n : Nat) (xs : List Value) (hs : a.eval s = v) (hown : w.ownsRow base 5 1 v n xs)
    (ad : Addr) (c : Nat) (y : Int) (hx : a.eval x = .slice (some ad) 1 c) (hc : w.cell? ad = some (.int .u8 y)) (hn : n + 1 ≤ 1000000000) (hbase : base ≤ w.heap.size)
    (hK : ∀ v' w', w'.ownsRow base 5 1 v' (n + 1) (xs ++ [.int .u8 y]) → w.grownBy w' v.ownBlock → K (a.put o.dst v') w') :
    if Region.wanted o (yielded ops a.tmps) = true then Oper.wp Try.prog o a w K Q else E := by
  have hw : Region.wanted o (yielded ops a.tmps) = true := by simp [Region.wanted, hg]
  rw [if_pos hw]
  obtain ⟨i0, hi, hz0, hz1, hz2⟩ := info_parts Try.info5
  exact wp_append_own w s x 30 ho base 5 i0 (.int .u8 0) 1 1 Try.underlying30 hi hz0 hz1 hz2 rfl (by decide) v n xs hs hown ad 1 c [.int .u8 y] hx rfl (fun j u h => by
    match j, h with
    | 0, h => simp at h; subst h; simpa [Addr.add] using hc
    | j + 1, h => simp at h) (fun u h => by simp at h; subst h; rfl) (by unfold maxLen; omega) (by omega) hbase (fun v' w' h1 h2 _ => hK v' w' h1 h2)

/-- The document's pipe in a cell. -/
structure RefAt (w : World) (b room : Nat) (lv : Value) (t : Nat) (cl : Bool) : Prop where
  c0 : w.cell? ⟨b, 0, none⟩ = some (.int .i64 room)
  c1 : w.cell? ⟨b, 1, none⟩ = some lv
  c2 : w.cell? ⟨b, 2, none⟩ = some (.int .i64 t)
  c3 : w.cell? ⟨b, 3, none⟩ = some (.bool cl)
  f0 : w.frozen? ⟨b, 0, none⟩ = false
  f1 : w.frozen? ⟨b, 1, none⟩ = false
  f2 : w.frozen? ⟨b, 2, none⟩ = false
  f3 : w.frozen? ⟨b, 3, none⟩ = false
theorem RefAt.keep {S : Nat → Prop} {w w' : World} {b room : Nat} {lv : Value} {t : Nat} {cl : Bool} (h : RefAt w b room lv t cl) (hx : Ext S w w') (hs : ¬ S b) : RefAt w' b room lv t cl := by
  have hb := lt_of_cell h.c0
  exact ⟨(hx.cell hb hs).trans h.c0, (hx.cell (by exact hb) hs).trans h.c1, (hx.cell (by exact hb) hs).trans h.c2, (hx.cell (by exact hb) hs).trans h.c3, (hx.frozen (by exact hb) hs).trans h.f0, (hx.frozen (by exact hb) hs).trans h.f1, (hx.frozen (by exact hb) hs).trans h.f2, (hx.frozen (by exact hb) hs).trans h.f3⟩
theorem RefAt.new (w : World) (room : Nat) (lv : Value) (t : Nat) (cl : Bool) {cs : Array Value} (h : cs = #[.int .i64 room, lv, .int .i64 t, .bool cl]) : RefAt (w.alloc (.cells cs 29)) w.heap.size room lv t cl := by
  subst h
  refine ⟨?_, ?_, ?_, ?_, ?_, ?_, ?_, ?_⟩
  · rw [World.cell?_alloc_at _ _ _ _ rfl]; rfl
  · rw [World.cell?_alloc_at _ _ _ _ rfl]; rfl
  · rw [World.cell?_alloc_at _ _ _ _ rfl]; rfl
  · rw [World.cell?_alloc_at _ _ _ _ rfl]; rfl
  · rw [World.frozen?_alloc_at _ _ _ _ rfl]
  · rw [World.frozen?_alloc_at _ _ _ _ rfl]
  · rw [World.frozen?_alloc_at _ _ _ _ rfl]
  · rw [World.frozen?_alloc_at _ _ _ _ rfl]

theorem RefAt.setT {w : World} {b room : Nat} {lv : Value} {t t' : Nat} {cl : Bool} (h : RefAt w b room lv t cl) {x : Int} (hx : x = t') : RefAt (w.setCell ⟨b, 2, none⟩ (.int .i64 x)) b room lv t' cl := by
  subst hx
  refine ⟨?_, ?_, ?_, ?_, ?_, ?_, ?_, ?_⟩
  · rw [World.cell?_setCell_other _ _ _ _ (by simp)]; exact h.c0
  · rw [World.cell?_setCell_other _ _ _ _ (by simp)]; exact h.c1
  · exact World.cell?_setCell_same' _ _ _ (by simp [h.c2])
  · rw [World.cell?_setCell_other _ _ _ _ (by simp)]; exact h.c3
  · rw [World.frozen?_setCell]; exact h.f0
  · rw [World.frozen?_setCell]; exact h.f1
  · rw [World.frozen?_setCell]; exact h.f2
  · rw [World.frozen?_setCell]; exact h.f3
theorem RefAt.setR {w : World} {b room : Nat} {lv : Value} {t : Nat} {cl : Bool} (h : RefAt w b room lv t cl) (room' : Nat) : RefAt (w.setCell ⟨b, 0, none⟩ (.int .i64 room')) b room' lv t cl := by
  refine ⟨?_, ?_, ?_, ?_, ?_, ?_, ?_, ?_⟩
  · exact World.cell?_setCell_same' _ _ _ (by simp [h.c0])
  · rw [World.cell?_setCell_other _ _ _ _ (by simp)]; exact h.c1
  · rw [World.cell?_setCell_other _ _ _ _ (by simp)]; exact h.c2
  · rw [World.cell?_setCell_other _ _ _ _ (by simp)]; exact h.c3
  · rw [World.frozen?_setCell]; exact h.f0
  · rw [World.frozen?_setCell]; exact h.f1
  · rw [World.frozen?_setCell]; exact h.f2
  · rw [World.frozen?_setCell]; exact h.f3
theorem RefAt.setL {w : World} {b room : Nat} {lv : Value} {t : Nat} {cl : Bool} (h : RefAt w b room lv t cl) (lv' : Value) : RefAt (w.setCell ⟨b, 1, none⟩ lv') b room lv' t cl := by
  refine ⟨?_, ?_, ?_, ?_, ?_, ?_, ?_, ?_⟩
  · rw [World.cell?_setCell_other _ _ _ _ (by simp)]; exact h.c0
  · exact World.cell?_setCell_same' _ _ _ (by simp [h.c1])
  · rw [World.cell?_setCell_other _ _ _ _ (by simp)]; exact h.c2
  · rw [World.cell?_setCell_other _ _ _ _ (by simp)]; exact h.c3
  · rw [World.frozen?_setCell]; exact h.f0
  · rw [World.frozen?_setCell]; exact h.f1
  · rw [World.frozen?_setCell]; exact h.f2
  · rw [World.frozen?_setCell]; exact h.f3
theorem RefAt.setC {w : World} {b room : Nat} {lv : Value} {t : Nat} {cl : Bool} (h : RefAt w b room lv t cl) (cl' : Bool) : RefAt (w.setCell ⟨b, 3, none⟩ (.bool cl')) b room lv t cl' := by
  refine ⟨?_, ?_, ?_, ?_, ?_, ?_, ?_, ?_⟩
  · rw [World.cell?_setCell_other _ _ _ _ (by simp)]; exact h.c0
  · rw [World.cell?_setCell_other _ _ _ _ (by simp)]; exact h.c1
  · rw [World.cell?_setCell_other _ _ _ _ (by simp)]; exact h.c2
  · exact World.cell?_setCell_same' _ _ _ (by simp [h.c3])
  · rw [World.frozen?_setCell]; exact h.f0
  · rw [World.frozen?_setCell]; exact h.f1
  · rw [World.frozen?_setCell]; exact h.f2
  · rw [World.frozen?_setCell]; exact h.f3
theorem RefAt.all {w : World} {b room0 : Nat} {lv0 : Value} {t0 : Nat} {cl0 : Bool} (h : RefAt w b room0 lv0 t0 cl0) (room : Nat) (lv : Value) (t : Nat) (cl : Bool) :
    RefAt ((((w.setCell ⟨b, 0, none⟩ (.int .i64 room)).setCell ⟨b, 1, none⟩ lv).setCell ⟨b, 2, none⟩ (.int .i64 t)).setCell ⟨b, 3, none⟩ (.bool cl)) b room lv t cl ∧
    Ext (fun k => k = b) w ((((w.setCell ⟨b, 0, none⟩ (.int .i64 room)).setCell ⟨b, 1, none⟩ lv).setCell ⟨b, 2, none⟩ (.int .i64 t)).setCell ⟨b, 3, none⟩ (.bool cl)) :=
  ⟨(((h.setR room).setL lv).setT rfl).setC cl, ((((Ext.refl (fun k => k = b) w).setCell (p := ⟨b, 0, none⟩) (.inl rfl) _).setCell (p := ⟨b, 1, none⟩) (.inl rfl) _).setCell (p := ⟨b, 2, none⟩) (.inl rfl) _).setCell (p := ⟨b, 3, none⟩) (.inl rfl) _⟩
theorem Bss.tail {w : World} {Av : Nat → Prop} {b off cap : Nat} {x : List Int} {L : List (List Int)} {n : Nat} (h : Bss w Av (.slice (some ⟨b, off, none⟩) n cap) (x :: L)) (q : Option Addr) (hq : L ≠ [] → q = some ⟨b, off + 1, none⟩) : Bss w Av (.slice q L.length (cap - 1)) L := by
  obtain ⟨q', cap', e, hc, h⟩ := h
  cases e
  obtain ⟨b', off', e, h1, h2, h3⟩ := h (by simp)
  cases e
  exact ⟨q, cap - 1, rfl, by simp at hc; omega, fun hl => ⟨b, off + 1, hq hl, h1, h2, fun j l e => by
    have := h3 (j + 1) l (by simpa using e)
    rw [show off + 1 + j = off + (j + 1) by omega]
    exact this⟩⟩
/-- Av, and all blocks that there are not yet. -/
def AvB (Av : Nat → Prop) (w : World) (k : Nat) : Prop := Av k ∨ w.heap.size ≤ k
theorem Bss.old {w : World} {Av : Nat → Prop} {v : Value} {L : List (List Int)} (h : Bss w Av v L) : Bss w (AvB Av w) v L :=
  h.turn (Ext.refl (fun _ => False) w) (fun _ _ h => h.elim) (fun k hk a => by rcases a with a | a; exact a; omega)
def lenOfV : Value → Nat
  | .slice _ n _ => n
  | _ => 0

set_option maxHeartbeats 3200000 in
set_option maxRecDepth 20000 in
theorem refTake_eq {w : World} {Av : Nat → Prop} {lv : Value} {L : List (List Int)} {t room : Nat} {cl : Bool} {first : List Int} {pieces : List (List Int)} (h : Bss w (AvB Av w) lv L) (hk : Like L t first pieces) (hn : L.length ≤ 100000) (htot : first.length + total pieces ≤ 1000000000)
    (hfull : ∀ l ∈ L, l ≠ []) (hlen : ∀ l ∈ L, l.length ≤ 1000000) (n : Int) (hnn : n ≤ 9223372036854775807) :
    Calls Try.prog 10 #[.agg #[.int .i64 room, lv, .int .i64 t, .bool cl], .int .i64 n] w fun e w' => ∃ lv' v L' t', e = .returned (.tuple #[.agg #[.int .i64 room, lv', .int .i64 (t' : Nat), .bool cl], v]) ∧ Bss w' (AvB Av w) lv' L' ∧ (∃ d, L' = L.drop d) ∧
      Like L' t' (tk n.toNat first pieces).2.1 (tk n.toNat first pieces).2.2 ∧ Bs w' (fun k => k < w.heap.size) v (tk n.toNat first pieces).1 ∧ Ext (fun _ => False) w w' := by
  obtain ⟨q, cap, rfl, hc, h'⟩ := id h
  go_enter Try.func10, Try.ntmps10
  go_wp2_with fail
  generalize hw2 : (w.alloc (.cells #[.int .i64 room, .slice q L.length cap, .int .i64 t, .bool cl] 29)).alloc (.cells #[.int .i64 0, .slice none 0 0, .int .i64 0, .bool false] 29) = w2
  have hsz : w2.heap.size = w.heap.size + 2 := by rw [← hw2]; simp
  have hX2 : Ext (fun _ => False) w w2 := by rw [← hw2]; exact ((Ext.refl _ w).alloc _).alloc _
  have hA : RefAt w2 w.heap.size room (.slice q L.length cap) t cl := by
    rw [← hw2]
    exact (RefAt.new w room (.slice q L.length cap) t cl rfl).keep ((Ext.refl (fun _ => False) _).alloc _) (fun h => h)
  have hR : RefAt w2 (w.heap.size + 1) 0 (.slice none 0 0) 0 false := by
    rw [← hw2]
    have := RefAt.new (w.alloc (.cells #[.int .i64 room, .slice q L.length cap, .int .i64 t, .bool cl] 29)) 0 (.slice none 0 0) 0 false rfl
    simpa using this
  have hB2 : Bss w2 (AvB Av w) (.slice q L.length cap) L := h.turn hX2 (fun _ _ h => h.elim) (fun _ _ a => a)
  clear hw2 h'
  go_loopw [6] (fun v wr => ∃ (lv' : Value) (L' : List (List Int)) (t' : Nat) (acc f : List Int) (ps : List (List Int)), RefAt wr w.heap.size room lv' t' cl ∧ Bss wr (AvB Av w) lv' L' ∧ L'.length ≤ 100000 ∧ (∃ d, L' = L.drop d) ∧ Like L' t' f ps ∧ acc.length + f.length + total ps = first.length + total pieces ∧
      Row wr w2.heap.size (fun _ => True) v acc ∧ Ext (fun k => k = w.heap.size) w2 wr ∧ acc ++ (tk (n.toNat - acc.length) f ps).1 = (tk n.toNat first pieces).1 ∧ (tk (n.toNat - acc.length) f ps).2 = (tk n.toNat first pieces).2) (fun v _ => (n - lenOfV v).toNat)
  case atStart => exact ⟨_, L, t, [], first, pieces, hA, hB2, hn, ⟨0, rfl⟩, hk, by simp, Row.nil _ _ _, Ext.refl _ _, by simp, rfl⟩
  case round =>
    obtain ⟨lv', L', t', acc, f, ps, hA', hB', hn', hin, hk', hsum, hrow, hX, ha1, ha2⟩ := hrel
    obtain ⟨q', cap', rfl, hcap', hb'⟩ := id hB'
    obtain ⟨qa, capa, rfl⟩ := hrow.len
    have c1 := hA'.c1
    have c2 := hA'.c2
    have f1 := hA'.f1
    have f2 := hA'.f2
    have fin : ∀ WF, Ext (fun k => k = w.heap.size + 1) wr WF → acc = (tk n.toNat first pieces).1 → Like L' t' (tk n.toNat first pieces).2.1 (tk n.toNat first pieces).2.2 →
        Bss WF (AvB Av w) (.slice q' L'.length cap') L' ∧ (∃ d, L' = L.drop d) ∧ Like L' t' (tk n.toNat first pieces).2.1 (tk n.toNat first pieces).2.2 ∧ Bs WF (fun k => k < w.heap.size) (.slice qa acc.length capa) (tk n.toNat first pieces).1 ∧ Ext (fun _ => False) w WF := by
      intro WF Y e1 e2
      refine ⟨hB'.turn Y (fun k _ e => .inr (by omega)) (fun _ _ a => a), hin, e2, ?_, ?_⟩
      · rw [← e1]
        have := (hrow.keep Y (fun k e (s : k = w.heap.size + 1) => by have := (hrow.lt k e).1; omega) (fun _ a => a)).bs
        exact this.mono (fun k _ hk => .inr (.inl (by omega)))
      · have A1 : Ext (fun k => w.heap.size ≤ k) w w2 := hX2.mono (fun _ _ h => h.elim)
        have A2 : Ext (fun k => w.heap.size ≤ k) w2 wr := hX.mono (fun _ _ h => by omega)
        have A3 : Ext (fun k => w.heap.size ≤ k) wr WF := Y.mono (fun _ _ h => by omega)
        exact ((A1.trans A2).trans A3).mono (fun k hk h => by omega)
    by_cases hlt : (acc.length : Int) < n
    · cases L' with
      | nil =>
        have hRn := hR.keep hX (by omega)
        have c0 := hA'.c0
        have c3 := hA'.c3
        have r0 := hRn.c0
        have r1 := hRn.c1
        have r2 := hRn.c2
        have r3 := hRn.c3
        have q0 := hRn.f0
        have q1 := hRn.f1
        have q2 := hRn.f2
        have q3 := hRn.f3
        go_wp2_with fail
        obtain ⟨hRF, Y⟩ := hRn.all room (.slice q' 0 cap') t' cl
        generalize ((((wr.setCell ⟨w.heap.size + 1, 0, none⟩ (.int .i64 room)).setCell ⟨w.heap.size + 1, 1, none⟩ (.slice q' 0 cap')).setCell ⟨w.heap.size + 1, 2, none⟩ (.int .i64 t')).setCell ⟨w.heap.size + 1, 3, none⟩ (.bool cl)) = WF at *
        refine bodyPost_ret ?_ rfl ⟨.slice q' 0 cap', .slice qa acc.length capa, [], t', rfl, ?_⟩
        · simp [results, Try.results10, go_sem, hRF.c0, hRF.c1, hRF.c2, hRF.c3]
        · refine fin _ Y ?_ ?_
          · rcases hk'.or with ⟨rfl, rfl, e⟩ | ⟨x, _, _, e, _⟩
            · rw [← e] at ha1; simpa [tk] using ha1
            · cases e
          · rcases hk'.or with ⟨rfl, rfl, e⟩ | ⟨x, _, _, e, _⟩
            · rw [← ha2, ← e]; simpa [tk] using (⟨.inl ⟨rfl, rfl, rfl⟩⟩ : Like [] 0 [] [])
            · cases e
      | cons x L' =>
        obtain ⟨b, off, rfl, hb1, hb2, hb3⟩ := hb' (by simp)
        have hbn : ¬ w.heap.size ≤ b := fun h => hb1 (.inr h)
        obtain ⟨u, hu, hbu⟩ := hb3 0 x rfl
        simp only [Nat.add_zero] at hu
        obtain ⟨y, hy, htx, hone⟩ := like_one hk' (hfull x (mem_of_drop hin (by simp)))
        obtain ⟨qu, cu, rfl, hcu, hbu⟩ := hbu
        obtain ⟨bu, ou, rfl, hu1, hu2, hu3⟩ := hbu (by rintro rfl; simp at htx)
        have hcell := hu3 t' y hy
        clear hy hu3 hb3 hb'
        have hown : (wr.alloc (.cells #[.int .u8 y] 5)).drew.ownsRow w2.heap.size 5 1 (.slice qa acc.length capa) acc.length (acc.map (.int .u8)) := World.ownsRow.alloc (w := wr) hrow.1 _
        have hnew : (wr.alloc (.cells #[.int .u8 y] 5)).drew.cell? ⟨wr.heap.size, 0, none⟩ = some (.int .u8 y) := by
          change (wr.alloc (.cells #[.int .u8 y] 5)).cell? ⟨wr.heap.size, 0, none⟩ = _
          rw [World.cell?_alloc_at _ _ _ _ rfl]; rfl
        have hsz' := hX.size
        have htot1 : acc.length ≤ 1000000000 - 1 := by
          have := (hone 0).choose_spec.choose_spec.2.2.1
          omega
        have hlx : (0 : Int) < (((x :: L').length : Nat) : Int) := by simp <;> omega
        have htx' : (t' : Int) < (x.length : Int) := by omega
        go_wp2_with fail
        go_region_law (refine step_append_bs rfl (.tmp 17) (.tmp 26) rfl w2.heap.size _ acc.length (acc.map (.int .u8)) rfl hown ⟨wr.heap.size, 0, none⟩ 1 y rfl hnew (by omega) (by simp; omega) (fun v' w' h1 h2 => ?_))
        all_goals
          have XA : Ext (fun k => w2.heap.size ≤ k) wr w' := Ext.grown (((Ext.refl (fun k => w2.heap.size ≤ k) wr).alloc _).drew) h2 (fun k e => .inl (hown.lt k e).1)
          have hXg : Ext (fun k => k = w.heap.size) w2 w' := Ext.grown ((hX.alloc _).drew) h2 (fun k e => .inr (hown.lt k e).1)
          have hrow' : Row w' w2.heap.size (fun _ => True) v' (acc ++ [y]) := ⟨by simpa using h1, fun _ _ => trivial⟩
          have hA2 := hA'.keep XA (by omega)
          have hBn := hB'.turn XA (fun k _ h => .inr (by omega)) (fun _ _ a => a)
          obtain ⟨qe, cape, ee, hcape, he'⟩ := id hBn
          cases ee
          obtain ⟨_, _, ee, _, _, he3⟩ := he' (by simp)
          cases ee
          obtain ⟨u, hu', qz, cz, rfl, _, _⟩ := he3 0 x rfl
          simp only [Nat.add_zero] at hu'
          clear he3 he' hu hcell hA' hB' hown hnew h1 h2 hX XA c1 c2 f1 f2 hrow
          have c1 := hA2.c1
          have c2 := hA2.c2
          have f1 := hA2.f1
          have f2 := hA2.f2
          obtain ⟨qv, cv, rfl⟩ := hrow'.len
          obtain ⟨f', ps', hlk, htk, hs2, _⟩ := hone (n.toNat - (acc ++ [y]).length)
          rw [show n.toNat - acc.length = n.toNat - (acc ++ [y]).length + 1 by simp; omega, htk] at ha1 ha2
          clear hone htk
          have hxl := hlen x (mem_of_drop hin (by simp))
          generalize hlc : (acc ++ [y]).length = lc at *
          by_cases hend : t' + 1 = x.length
          · have hbool : (((t' : Int) + 1) == (x.length : Int)) = true := by simp; omega
            rw [if_pos hend, if_pos hend] at hlk
            go_wp2
            go_quiet (fail)
            go_wp2_with fail
            go_roundw
            case measure =>
              have hlc' : lc = acc.length + 1 := by rw [← hlc]; simp
              simp [lenOfV]; omega
            case rel =>
              refine ⟨.slice _ L'.length (cap' - 1), L', 0, acc ++ [y], f', ps', (((hA2.setT (t' := t' + 1) (by simp)).keep ((Ext.refl (fun _ => False) _).drewN nq) (fun h => h)).setL _).setT rfl, ?_, ?_, ?_, hlk, ?_, ?_, ?_, ?_, ?_⟩
              · refine Bss.tail (b := b) (off := off) (x := x) (n := (x :: L').length) (Bss.turn hBn (((((Ext.refl (fun k => k = w.heap.size) w').setCell (p := ⟨w.heap.size, 2, none⟩) (.inl rfl) _).drewN nq).setCell (p := ⟨w.heap.size, 1, none⟩) (.inl rfl) _).setCell (p := ⟨w.heap.size, 2, none⟩) (.inl rfl) _) (fun k _ e => .inr (by omega)) (fun _ _ a => a)) _ (fun hne => ?_)
                rw [if_neg (by intro e; exact hne (List.length_eq_zero_iff.1 (by simp at hcap'; omega)))]
              · simp at hn'; omega
              · exact drop_tail hin
              · have hlc' : lc = acc.length + 1 := by rw [← hlc]; simp
                rw [hlc]; omega
              · exact hrow'.keep (((((Ext.refl (fun k => k = w.heap.size) w').setCell (p := ⟨w.heap.size, 2, none⟩) (.inl rfl) _).drewN nq).setCell (p := ⟨w.heap.size, 1, none⟩) (.inl rfl) _).setCell (p := ⟨w.heap.size, 2, none⟩) (.inl rfl) _) (fun k e (s : k = w.heap.size) => by have := (hrow'.lt k e).1; omega) (fun _ a => a)
              · exact (((hXg.setCell (p := ⟨w.heap.size, 2, none⟩) (.inl rfl) _).drewN nq).setCell (p := ⟨w.heap.size, 1, none⟩) (.inl rfl) _).setCell (p := ⟨w.heap.size, 2, none⟩) (.inl rfl) _
              · rw [hlc]; simpa using ha1
              · rw [hlc]; exact ha2
          · have hbool : (((t' : Int) + 1) == (x.length : Int)) = false := by simp; omega
            rw [if_neg hend, if_neg hend] at hlk
            go_wp2
            go_quiet (fail)
            go_wp2_with fail
            go_roundw
            case measure =>
              have hlc' : lc = acc.length + 1 := by rw [← hlc]; simp
              simp [lenOfV]; omega
            case rel =>
              refine ⟨_, x :: L', t' + 1, acc ++ [y], f', ps', (hA2.setT (t' := t' + 1) (by simp)).keep ((Ext.refl (fun _ => False) _).drewN nq) (fun h => h), ?_, hn', hin, hlk, ?_, ?_, ?_, ?_, ?_⟩
              · exact hBn.turn (((Ext.refl (fun k => k = w.heap.size) w').setCell (p := ⟨w.heap.size, 2, none⟩) (.inl rfl) _).drewN nq) (fun k _ e => .inr (by omega)) (fun _ _ a => a)
              · have hlc' : lc = acc.length + 1 := by rw [← hlc]; simp
                rw [hlc]; omega
              · exact hrow'.keep (((Ext.refl (fun k => k = w.heap.size) w').setCell (p := ⟨w.heap.size, 2, none⟩) (.inl rfl) _).drewN nq) (fun k e (s : k = w.heap.size) => by have := (hrow'.lt k e).1; omega) (fun _ a => a)
              · exact (hXg.setCell (p := ⟨w.heap.size, 2, none⟩) (.inl rfl) _).drewN nq
              · rw [hlc]; simpa using ha1
              · rw [hlc]; exact ha2
    · have hz : n.toNat - acc.length = 0 := by omega
      have hRn := hR.keep hX (by omega)
      have c0 := hA'.c0
      have c3 := hA'.c3
      have r0 := hRn.c0
      have r1 := hRn.c1
      have r2 := hRn.c2
      have r3 := hRn.c3
      have q0 := hRn.f0
      have q1 := hRn.f1
      have q2 := hRn.f2
      have q3 := hRn.f3
      go_wp2_with fail
      obtain ⟨hRF, Y⟩ := hRn.all room (.slice q' L'.length cap') t' cl
      generalize ((((wr.setCell ⟨w.heap.size + 1, 0, none⟩ (.int .i64 room)).setCell ⟨w.heap.size + 1, 1, none⟩ (.slice q' L'.length cap')).setCell ⟨w.heap.size + 1, 2, none⟩ (.int .i64 t')).setCell ⟨w.heap.size + 1, 3, none⟩ (.bool cl)) = WF at *
      refine bodyPost_ret ?_ rfl ⟨.slice q' L'.length cap', .slice qa acc.length capa, L', t', rfl, ?_⟩
      · simp [results, Try.results10, go_sem, hRF.c0, hRF.c1, hRF.c2, hRF.c3]
      · refine fin _ Y ?_ ?_
        · rw [hz, tk_zero] at ha1; simpa using ha1
        · rw [hz, tk_zero] at ha2; rw [← ha2]; exact hk'
end Go.Proofs.Ytihdjneoemlddaa
