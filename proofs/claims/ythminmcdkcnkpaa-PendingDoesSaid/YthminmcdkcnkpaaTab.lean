/- The table in memory; none, New, Kind, Drop, Answer, Close. -/
import Derived.Test.YthminmcdkcnkpaaMp
import Derived.Test.YthminmcdkcnkpaaRows
import Derived.WalkKit
import Derived.ProofKit
import Derived.Below
import Derived.BigQuiet
import Derived.WalkSpells
import Derived.Laws.OwnMore
import Derived.Maps.OwnIn
namespace Go.Proofs.Ythminmcdkcnkpaa
open Go.RowKit Go.Maps

/-- Of the blocks that were there only those of S may have changed. -/
structure Ext (S : Nat → Prop) (w w' : World) : Prop where
  os : w'.os = w.os
  tape : w'.tape = w.tape
  output : w'.output = w.output
  size : w.heap.size ≤ w'.heap.size
  block : ∀ k, k < w.heap.size → ¬ S k → w'.heap[k]? = w.heap[k]?

namespace Ext
theorem refl (S) (w : World) : Ext S w w := ⟨rfl, rfl, rfl, Nat.le_refl _, fun _ _ _ => rfl⟩
theorem trans {S} {a b c : World} (h : Ext S a b) (k : Ext S b c) : Ext S a c :=
  ⟨k.os.trans h.os, k.tape.trans h.tape, k.output.trans h.output, Nat.le_trans h.size k.size, fun i hi hs => (k.block i (Nat.lt_of_lt_of_le hi h.size) hs).trans (h.block i hi hs)⟩
theorem mono {S T : Nat → Prop} {a b : World} (h : Ext S a b) (hs : ∀ k, k < a.heap.size → S k → T k) : Ext T a b :=
  ⟨h.os, h.tape, h.output, h.size, fun i hi ht => h.block i hi (fun s => ht (hs i hi s))⟩
theorem trans2 {S T} {a b c : World} (h : Ext S a b) (k : Ext T b c) (hs : ∀ i, i < a.heap.size → T i → S i) : Ext S a c :=
  ⟨k.os.trans h.os, k.tape.trans h.tape, k.output.trans h.output, Nat.le_trans h.size k.size, fun i hi hn => (k.block i (Nat.lt_of_lt_of_le hi h.size) (fun t => hn (hs i hi t))).trans (h.block i hi hn)⟩
theorem drew {S} {a w : World} (h : Ext S a w) : Ext S a w.drew := ⟨h.os, h.tape, h.output, h.size, h.block⟩
theorem drewN {S} {a w : World} (h : Ext S a w) (n : Nat) : Ext S a (w.drewN n) := ⟨h.os, h.tape, h.output, h.size, h.block⟩
theorem alloc {S} {a w : World} (h : Ext S a w) (o : Obj) : Ext S a (w.alloc o) :=
  h.trans ⟨rfl, rfl, rfl, by simp, fun k hk _ => Below.heap_alloc _ _ _ hk⟩
theorem setCell {S} {a w : World} (h : Ext S a w) {p : Addr} (hp : S p.block ∨ a.heap.size ≤ p.block) (u : Value) : Ext S a (w.setCell p u) :=
  ⟨h.os, h.tape, h.output, by simpa [World.setCell] using h.size, fun k hk hs => by
    rw [Below.heap_setCell _ _ _ _ (by rintro rfl; rcases hp with hp | hp; exact hs hp; omega)]; exact h.block k hk hs⟩
theorem grown {S} {a w w' : World} {r : Option Nat} (h : Ext S a w) (hg : w.grownBy w' r) (hs : ∀ j, r = some j → S j ∨ a.heap.size ≤ j) : Ext S a w' :=
  ⟨hg.os.trans h.os, hg.tape.trans h.tape, hg.output.trans h.output, Nat.le_trans h.size hg.size, fun k hk hn => by
    rw [hg.block k (Nat.lt_of_lt_of_le hk h.size) (fun e => by rcases hs k e.symm with h1 | h1; exact hn h1; omega)]; exact h.block k hk hn⟩
theorem of_below {S} {w w' : World} (h : Below w.heap.size w w') : Ext S w w' := ⟨h.os, h.tape, h.output, h.size, fun k hk _ => h.block k hk⟩
theorem cell {S} {w w' : World} (h : Ext S w w') {p : Addr} (hp : p.block < w.heap.size) (hs : ¬ S p.block) : w'.cell? p = w.cell? p := World.cell?_of_block (w := w) (h.block p.block hp hs)
theorem frozen {S} {w w' : World} (h : Ext S w w') {p : Addr} (hp : p.block < w.heap.size) (hs : ¬ S p.block) : w'.frozen? p = w.frozen? p := World.frozen?_of_block (w := w) (h.block p.block hp hs)
theorem below {S} {w w' : World} (h : Ext S w w') {B : Nat} (hB : B ≤ w.heap.size) (hs : ∀ k, k < B → ¬ S k) : Below B w w' :=
  ⟨h.os, h.tape, h.output, h.size, fun k hk => h.block k (Nat.lt_of_lt_of_le hk hB) (hs k hk)⟩
end Ext

theorem lt_of_cell {w : World} {p : Addr} {v : Value} (h : w.cell? p = some v) : p.block < w.heap.size := World.block_lt_of_cell? _ _ h
theorem lt_of_block {w : World} {k : Nat} {o : Obj} (h : w.heap[k]? = some o) : k < w.heap.size := by
  by_cases hk : k < w.heap.size
  · exact hk
  · rw [Array.getElem?_eq_none (by omega)] at h; cases h

/-- How an element of the table's map reads. -/
def waitElem : Value → Option (Dt × List MemPlace)
  | .agg ⟨[.int .i64 k, .int .i64 t]⟩ => some (wd (0, k, t), [])
  | _ => none
theorem waitElem_mk (k t : Int) : waitElem (.agg #[.int .i64 k, .int .i64 t]) = some (wd (0, k, t), []) := rfl
theorem waitElem_inv {v : Value} {z : Dt × List MemPlace} (h : waitElem v = some z) : ∃ k t, v = .agg #[.int .i64 k, .int .i64 t] ∧ z = (wd (0, k, t), []) := by
  unfold waitElem at h
  split at h
  · cases h; exact ⟨_, _, rfl, rfl⟩
  · cases h
theorem key22 : Keyed Try.prog 22 := int_keyed Try.underlying22
theorem wf32 {x : Int} (h : 0 ≤ x ∧ x < 4294967296) : (Lit.int .u32 x).wf = true := by
  simp [Lit.wf, IntKind.min, IntKind.max, IntKind.bits, IntKind.signed]; omega
theorem keyOf32 {x : Int} (h : 0 ≤ x ∧ x < 4294967296) : keyOf Try.prog 22 (.int .u32 x) = some (ky x) := keyOf_int_mk Try.underlying22 (wf32 h)
theorem wd_eq {a b : En} (h1 : a.2.1 = b.2.1) (h2 : a.2.2 = b.2.2) : wd a = wd b := by simp [wd, h1, h2]
theorem wd_inj {a b : En} (h : wd a = wd b) : a.2 = b.2 := by
  simp [wd] at h
  exact Prod.ext h.1 h.2

/-- The table at p, its map in block b. -/
structure Tab (w : World) (p b n : Nat) (room turns last : Int) (L : List En) : Prop where
  c0 : w.cell? ⟨p, 0, none⟩ = some (.int .i64 room)
  c1 : w.cell? ⟨p, 1, none⟩ = some (.int .i64 turns)
  c2 : w.cell? ⟨p, 2, none⟩ = some (.int .u32 last)
  c3 : w.cell? ⟨p, 3, none⟩ = some (.map (some b))
  fz : ∀ j, w.frozen? ⟨p, j, none⟩ = false
  lt : p < w.heap.size
  ne : p ≠ b
  map : ∃ D, w.ownsMap Try.prog 22 waitElem b n D ∧ Mp wd D L

theorem ownsMap_ext {w w' : World} {S : Nat → Prop} {b n : Nat} {D : Dt} {R} (h : w.ownsMap Try.prog 22 R b n D) (hx : Ext S w w') (hb : ¬ S b) : w'.ownsMap Try.prog 22 R b n D := by
  have hlt := h.lt
  obtain ⟨es, clock, hb', r⟩ := h
  exact ⟨es, clock, (hx.block b hlt hb).trans hb', r⟩

section
variable {w w' : World} {p b n : Nat} {room turns last : Int} {L : List En}
theorem Tab.blt (h : Tab w p b n room turns last L) : b < w.heap.size := by
  obtain ⟨D, h, _⟩ := h.map
  exact h.lt
theorem Tab.keep {S : Nat → Prop} (h : Tab w p b n room turns last L) (hx : Ext S w w') (hp : ¬ S p) (hb : ¬ S b) : Tab w' p b n room turns last L := by
  obtain ⟨D, hm, hM⟩ := h.map
  exact ⟨(hx.cell (p := ⟨p, 0, none⟩) h.lt hp).trans h.c0, (hx.cell (p := ⟨p, 1, none⟩) h.lt hp).trans h.c1, (hx.cell (p := ⟨p, 2, none⟩) h.lt hp).trans h.c2, (hx.cell (p := ⟨p, 3, none⟩) h.lt hp).trans h.c3,
    fun j => (hx.frozen (p := ⟨p, j, none⟩) h.lt hp).trans (h.fz j), Nat.lt_of_lt_of_le h.lt hx.size, h.ne, D, ownsMap_ext hm hx hb, hM⟩
theorem Tab.mono {n' : Nat} (h : Tab w p b n room turns last L) (hn : n ≤ n') : Tab w p b n' room turns last L := by
  obtain ⟨D, hm, hM⟩ := h.map
  exact ⟨h.c0, h.c1, h.c2, h.c3, h.fz, h.lt, h.ne, D, hm.mono hn, hM⟩

theorem none_some (h : Tab w p b n room turns last L) : Calls Try.prog 15 #[.pointer (some ⟨p, 0, none⟩)] w fun e w' => e = .returned (.bool false) ∧ w' = w := by
  have h3 := h.c3
  have qT : ∀ (w : World) (r : Option Nat), (binOp .eql 49 (.map r) (.map none)).run Try.prog w = .ok (.bool r.isNone) w := fun w r => run_eql_map_nil w _ _ _ r Try.underlying49
  go_enter Try.func15, Try.ntmps15
  go_wp2
  go_ret
  exact ⟨rfl, rfl⟩

theorem new_none (room last : Int) (hr : room < 1 ∨ 256 < room) (w : World) : Calls Try.prog 6 #[.int .i64 room, .int .u32 last] w fun e w' => e = .returned (.pointer none) ∧ w' = w := by
  by_cases h1 : room < 1
  · go_enter Try.func6, Try.ntmps6
    go_wp2
    go_ret
    exact ⟨rfl, rfl⟩
  · have h2 : 256 < room := by omega
    go_enter Try.func6, Try.ntmps6
    go_wp2
    go_ret
    exact ⟨rfl, rfl⟩
theorem Tab.of_obj {D : Dt} (h : w.heap[p]? = some (.cells #[.int .i64 room, .int .i64 turns, .int .u32 last, .map (some b)] 51 (0, 0))) (hm : w.ownsMap Try.prog 22 waitElem b n D) (hM : Mp wd D L) (hne : p ≠ b) : Tab w p b n room turns last L :=
  ⟨by simp [World.cell?, h], by simp [World.cell?, h], by simp [World.cell?, h], by simp [World.cell?, h], fun j => by simp [World.frozen?, h], lt_of_block h, hne, D, hm, hM⟩
theorem new_ok (room last : Int) (hr : 1 ≤ room ∧ room ≤ 256) (w : World) : Calls Try.prog 6 #[.int .i64 room, .int .u32 last] w fun e w' => e = .returned (.pointer (some ⟨w.heap.size + 1, 0, none⟩)) ∧ Tab w' (w.heap.size + 1) w.heap.size 0 room 0 last [] ∧ Below w.heap.size w w' := by
  have h1 : ¬ room < 1 := by omega
  have h2 : ¬ 256 < room := by omega
  have hmk := World.ownsMap_made w Try.prog 22 waitElem
  have hmm := @run_makeMap Try.prog
  go_enter Try.func6, Try.ntmps6
  go_wp2
  go_ret
  refine ⟨by simp, Tab.of_obj (D := .map []) (by have := (MapKept.heap_alloc (w.alloc (.map #[] 0)) (.cells #[.int .i64 room, .int .i64 0, .int .u32 last, .map (some w.heap.size)] 51)).1; rw [show (w.alloc (.map #[] 0)).heap.size = w.heap.size + 1 by simp] at this; exact this) (hmk.alloc _) (Mp.empty wd) (by omega), (((Below.refl _ w).alloc (Nat.le_refl _) _).alloc (by simp) _)⟩

/-- What stands at a number: its kind and its turn. -/
def valAt (L : List En) (x : Int) : Int × Int := match L.find? (fun e => decide (e.1 = x)) with | some e => e.2 | none => (0, 0)
theorem val_mem {x : Int} (hn : (keys L).Nodup) {e : En} (he : e ∈ L) (hx : e.1 = x) : valAt L x = e.2 := by
  subst hx
  unfold valAt
  have : L.find? (fun e' => decide (e'.1 = e.1)) = some e := by
    induction L with
    | nil => cases he
    | cons a L ih =>
      simp only [keys, List.map_cons, List.nodup_cons] at hn
      rcases List.mem_cons.1 he with h | h
      · subst h; simp
      · have hne : a.1 ≠ e.1 := fun e1 => hn.1 (e1 ▸ List.mem_map.2 ⟨e, h, rfl⟩)
        rw [List.find?_cons]
        simp [hne, ih hn.2 h]
  rw [this]
theorem val_none {x : Int} (hx : x ∉ keys L) : valAt L x = (0, 0) := by
  unfold valAt
  have : L.find? (fun e' => decide (e'.1 = x)) = none := by
    rw [List.find?_eq_none]
    intro e he
    simp only [decide_eq_true_eq]
    exact fun e1 => hx (mem_keys.2 ⟨e, he, e1⟩)
  rw [this]
theorem Mp.atVal {D : Dt} (h : Mp wd D L) (x : Int) : D.atKey (ky x) (wd (0, 0, 0)) = wd (x, valAt L x) := by
  by_cases hx : x ∈ keys L
  · obtain ⟨e, he, rfl⟩ := mem_keys.1 hx
    rw [h.val e he, val_mem h.nd he rfl]
  · rw [h.miss hx, val_none hx]; rfl
theorem Tab.look (h : Tab w p b n room turns last L) {x : Int} (hx : 0 ≤ x ∧ x < 4294967296) :
    (Instr.lookup 49 (.map (some b)) (.int .u32 x) true).run Try.prog w = .ok (.tuple #[.agg #[.int .i64 (valAt L x).1, .int .i64 (valAt L x).2], .bool (decide (x ∈ keys L))]) w := by
  obtain ⟨D, hm, hM⟩ := h.map
  obtain ⟨v, ps, hrun, hv⟩ := hm.look_ok key22 Try.underlying49 (Try.zeroValue55 w) (waitElem_mk 0 0) (keyOf32 hx)
  obtain ⟨k, t, rfl, hz⟩ := waitElem_inv hv
  rw [hM.atVal] at hz
  have hz := wd_inj (congrArg Prod.fst hz)
  simp only at hz
  rw [hrun, hM.hs, hz]
theorem Tab.look1 (h : Tab w p b n room turns last L) {x : Int} (hx : 0 ≤ x ∧ x < 4294967296) :
    (Instr.lookup 49 (.map (some b)) (.int .u32 x) false).run Try.prog w = .ok (.agg #[.int .i64 (valAt L x).1, .int .i64 (valAt L x).2]) w := by
  obtain ⟨D, hm, hM⟩ := h.map
  obtain ⟨v, ps, hrun, hv⟩ := hm.lookup key22 Try.underlying49 (Try.zeroValue55 w) (waitElem_mk 0 0) (keyOf32 hx)
  obtain ⟨k, t, rfl, hz⟩ := waitElem_inv hv
  rw [hM.atVal] at hz
  have hz := wd_inj (congrArg Prod.fst hz)
  simp only at hz
  rw [hrun, hz]

set_option maxHeartbeats 800000 in
theorem kind_ok (h : Tab w p b n room turns last L) {x : Int} (hx : 0 ≤ x ∧ x < 4294967296) : Calls Try.prog 12 #[.pointer (some ⟨p, 0, none⟩), .int .u32 x] w fun e w' => e = .returned (.tuple #[.int .i64 (valAt L x).1, .bool (decide (x ∈ keys L))]) ∧ Ext (fun _ => False) w w' := by
  have h3 := h.c3
  have hl := h.look hx
  generalize (valAt L x) = v at *
  obtain ⟨v1, v2⟩ := v
  generalize (decide (x ∈ keys L)) = c at *
  go_enter Try.func12, Try.ntmps12
  go_wp2_with fail
  go_at_call 15
  refine (none_some h).mono ?_
  rintro e w1 ⟨rfl, hw⟩
  have hw := hw.symm
  subst hw
  go_wp2
  go_ret2
  exact ⟨rfl, (Ext.refl _ _).alloc _⟩

def isAsk (k : Int) : Bool := decide (k = 2 ∨ k = 5 ∨ k = 7 ∨ k = 18 ∨ k = 20 ∨ k = 22 ∨ k = 24 ∨ k = 26)
set_option maxHeartbeats 1600000 in
theorem answer_ok (k : Int) (w : World) : Calls Try.prog 14 #[.int .i64 k] w fun e w' => e = .returned (.tuple #[.int .i64 (if isAsk k then k + 1 else 0), .bool (isAsk k)]) ∧ w' = w := by
  by_cases hk : isAsk k = true
  · have hk' := hk
    simp only [isAsk, decide_eq_true_eq] at hk
    rw [hk']
    rcases hk with rfl | rfl | rfl | rfl | rfl | rfl | rfl | rfl
    all_goals (
      go_enter Try.func14, Try.ntmps14
      go_wp2
      go_ret2
      exact ⟨rfl, rfl⟩)
  · rw [Bool.not_eq_true] at hk
    rw [hk]
    simp only [isAsk, decide_eq_false_iff_not, not_or] at hk
    obtain ⟨h2, h5, h7, h18, h20, h22, h24, h26⟩ := hk
    go_enter Try.func14, Try.ntmps14
    go_wp2
    go_ret2
    exact ⟨rfl, rfl⟩
end
end Go.Proofs.Ythminmcdkcnkpaa
