/- Bytes in memory, and what Bytes, Clone, none, Len, Pieces, Close, Over and New do. -/
import Derived.Test.YtihdjneoemlddaaNext
namespace Go.Proofs.Ytihdjneoemlddaa
open Go.RowKit

/-- Of the blocks that were there only those of S may have changed. -/
structure Ext (S : Nat → Prop) (w w' : World) : Prop where
  os : w'.os = w.os
  tape : w'.tape = w.tape
  output : w'.output = w.output
  size : w.heap.size ≤ w'.heap.size
  block : ∀ k, k < w.heap.size → ¬ S k → w'.heap[k]? = w.heap[k]?

namespace Ext
theorem refl (S) (w : World) : Ext S w w := ⟨rfl, rfl, rfl, Nat.le_refl _, fun _ _ _ => rfl⟩
theorem trans {S} {a b c : World} (h : Ext S a b) (k : Ext S b c) : Ext S a c :=
  ⟨k.os.trans h.os, k.tape.trans h.tape, k.output.trans h.output, Nat.le_trans h.size k.size, fun i hi hs => (k.block i (Nat.lt_of_lt_of_le hi h.size) hs).trans (h.block i hi hs)⟩
theorem mono {S T : Nat → Prop} {a b : World} (h : Ext S a b) (hs : ∀ k, k < a.heap.size → S k → T k) : Ext T a b :=
  ⟨h.os, h.tape, h.output, h.size, fun i hi ht => h.block i hi (fun s => ht (hs i hi s))⟩
theorem drew {S} {a w : World} (h : Ext S a w) : Ext S a w.drew := ⟨h.os, h.tape, h.output, h.size, h.block⟩
theorem drewN {S} {a w : World} (h : Ext S a w) (n : Nat) : Ext S a (w.drewN n) := ⟨h.os, h.tape, h.output, h.size, h.block⟩
theorem alloc {S} {a w : World} (h : Ext S a w) (o : Obj) : Ext S a (w.alloc o) :=
  h.trans ⟨rfl, rfl, rfl, by simp, fun k hk _ => Below.heap_alloc _ _ _ hk⟩
theorem setCell {S} {a w : World} (h : Ext S a w) {p : Addr} (hp : S p.block ∨ a.heap.size ≤ p.block) (u : Value) : Ext S a (w.setCell p u) :=
  ⟨h.os, h.tape, h.output, by simpa [World.setCell] using h.size, fun k hk hs => by
    rw [Below.heap_setCell _ _ _ _ (by rintro rfl; rcases hp with hp | hp; exact hs hp; omega)]; exact h.block k hk hs⟩
theorem cell {S} {w w' : World} (h : Ext S w w') {p : Addr} (hp : p.block < w.heap.size) (hs : ¬ S p.block) : w'.cell? p = w.cell? p := World.cell?_of_block (w := w) (h.block p.block hp hs)
theorem frozen {S} {w w' : World} (h : Ext S w w') {p : Addr} (hp : p.block < w.heap.size) (hs : ¬ S p.block) : w'.frozen? p = w.frozen? p := World.frozen?_of_block (w := w) (h.block p.block hp hs)
theorem below {S} {w w' : World} (h : Ext S w w') {B : Nat} (hB : B ≤ w.heap.size) (hs : ∀ k, k < B → ¬ S k) : Below B w w' :=
  ⟨h.os, h.tape, h.output, h.size, fun k hk => h.block k (Nat.lt_of_lt_of_le hk hB) (hs k hk)⟩
end Ext


/-- A slice value that reads as these bytes, in a block that Av does not name. -/
def Bs (w : World) (Av : Nat → Prop) (v : Value) (l : List Int) : Prop :=
  ∃ p cap, v = .slice p l.length cap ∧ l.length ≤ cap ∧ (l ≠ [] → ∃ b off, p = some ⟨b, off, none⟩ ∧ ¬ Av b ∧ b < w.heap.size ∧ ∀ j x, l[j]? = some x → w.cell? ⟨b, off + j, none⟩ = some (.int .u8 x))
theorem Bs.keep {w w' : World} {Av S : Nat → Prop} {v : Value} {l : List Int} (h : Bs w Av v l) (hx : Ext S w w') (hs : ∀ k, k < w.heap.size → S k → Av k) : Bs w' Av v l := by
  obtain ⟨p, cap, rfl, hcp, h⟩ := h
  refine ⟨p, cap, rfl, hcp, fun hl => ?_⟩
  obtain ⟨b, off, rfl, h1, h2, h3⟩ := h hl
  exact ⟨b, off, rfl, h1, Nat.lt_of_lt_of_le h2 hx.size, fun j x e => (hx.cell (p := ⟨b, off + j, none⟩) h2 (fun s => h1 (hs b h2 s))).trans (h3 j x e)⟩
theorem Bs.mono {w : World} {Av Av' : Nat → Prop} {v : Value} {l : List Int} (h : Bs w Av v l) (hs : ∀ k, k < w.heap.size → Av' k → Av k) : Bs w Av' v l := by
  obtain ⟨p, cap, rfl, hcp, h⟩ := h
  refine ⟨p, cap, rfl, hcp, fun hl => ?_⟩
  obtain ⟨b, off, rfl, h1, h2, h3⟩ := h hl
  exact ⟨b, off, rfl, fun s => h1 (hs b h2 s), h2, h3⟩

set_option maxHeartbeats 800000 in
theorem bytes_eq (va vb : Value) (la lb : List Int) (Av Av' : Nat → Prop) (w : World) (ha : Bs w Av va la) (hb : Bs w Av' vb lb) (hn : la.length ≤ 1000000) :
    Calls Try.prog 11 #[va, vb] w fun e w' => e = .returned (.bool (decide (la = lb))) ∧ ∃ n, w' = w.drewN n := by
  obtain ⟨pa, ca, rfl, _, ha⟩ := ha
  obtain ⟨pb, cb, rfl, _, hb⟩ := hb
  by_cases hl : la.length = lb.length
  · have hl' : ((la.length : Int) == (lb.length : Int)) = true := by simp [hl]
    go_enter Try.func11, Try.ntmps11
    go_wp2_with fail
    go_loopw [5] (fun i wr => ∃ k m : Nat, k ≤ la.length ∧ i = .int .i64 k ∧ (∀ j, j < k → la[j]? = lb[j]?) ∧ wr = w.drewN m) (fun i _ => (la.length - intOf i).toNat)
    case atStart => exact ⟨0, 0, by omega, rfl, fun j hj => by omega, rfl⟩
    case round =>
      obtain ⟨k, m, hk, rfl, heq, rfl⟩ := hrel
      by_cases hkn : k < la.length
      · obtain ⟨ba, oa, rfl, _, _, ga⟩ := ha (by intro h; simp [h] at hkn)
        obtain ⟨bb, ob, rfl, _, _, gb⟩ := hb (by intro h; rw [h] at hl; simp at hl; simp [hl] at hkn)
        obtain ⟨x, hx⟩ : ∃ x, la[k]? = some x := ⟨_, List.getElem?_eq_getElem hkn⟩
        obtain ⟨y, hy⟩ : ∃ y, lb[k]? = some y := ⟨_, List.getElem?_eq_getElem (hl ▸ hkn)⟩
        have ca' := ga k x hx
        have cb' := gb k y hy
        have hkb : (k : Int) < (lb.length : Int) := by omega
        have hka : (k : Int) < (la.length : Int) := by omega
        by_cases hxy : x = y
        · have hxy' : (x == y) = true := by simp [hxy]
          have hh : la[k]? = lb[k]? := by rw [hx, hy, hxy]
          go_wp2_with fail
          go_quiet (fail)
          go_wp2
          go_roundw
          case rel => exact ⟨k + 1, _, by omega, by go_num, fun j hj => by rcases Nat.lt_succ_iff_lt_or_eq.1 hj with h | rfl; exact heq j h; exact hh, rfl⟩
          case measure => simp [intOf]; omega
        · have hxy' : (x == y) = false := by simp [hxy]
          have hne : la ≠ lb := by
            rintro rfl
            exact hxy (Option.some.inj (hx.symm.trans hy))
          go_wp2_with fail
          go_quiet (fail)
          go_wp2
          go_ret
          exact ⟨by simp [hne], m + nq, by simp [World.drewN, Nat.add_assoc]⟩
      · have he : la = lb := by
          apply List.ext_getElem? 
          intro j
          by_cases hj : j < k
          · exact heq j hj
          · rw [List.getElem?_eq_none (by omega), List.getElem?_eq_none (by omega)]
        go_wp2
        go_ret
        exact ⟨by simp [he], _, rfl⟩
  · have hl' : ((la.length : Int) == (lb.length : Int)) = false := by simp; omega
    have hne : la ≠ lb := by rintro rfl; exact hl rfl
    go_enter Try.func11, Try.ntmps11
    go_wp2
    go_ret
    exact ⟨by simp [hne], 0, rfl⟩

set_option maxHeartbeats 800000 in
theorem none_some (p : Nat) (c : Nat) (w : World) (h0 : w.cell? ⟨p, 0, none⟩ = some (.chan (some c))) :
    Calls Try.prog 19 #[.pointer (some ⟨p, 0, none⟩)] w fun e w' => e = .returned (.bool false) ∧ w' = w := by
  have hq : ∀ w : World, (binOp .eql 43 (.chan (some c)) (.chan none)).run Try.prog w = .ok (.bool false) w := fun _ => by kernel_rfl
  go_enter Try.func19, Try.ntmps19
  go_wp2
  go_ret
  exact ⟨rfl, rfl⟩
set_option maxHeartbeats 800000 in
theorem none_nil (w : World) : Calls Try.prog 19 #[.pointer none] w fun e w' => e = .returned (.bool true) ∧ w' = w := by
  go_enter Try.func19, Try.ntmps19
  go_wp2
  go_ret
  exact ⟨rfl, rfl⟩

theorem Try.info5 : (Try.prog.info? 5).map (fun i => (i.zero, i.size, i.bytes)) = some (some (.int .u8 0), 1, 1) := by kernel_rfl

set_option maxHeartbeats 800000 in
theorem clone_some (v : Value) (l : List Int) (Av : Nat → Prop) (w : World) (h : Bs w Av v l) (hl : l ≠ []) (hn : l.length ≤ 1000000) :
    Calls Try.prog 20 #[v] w fun e w' => ∃ b cap, e = .returned (.slice (some ⟨b, 0, none⟩) l.length cap) ∧ w.heap.size ≤ b ∧ Bs w' (fun k => k < w.heap.size) (.slice (some ⟨b, 0, none⟩) l.length cap) l ∧ Below w.heap.size w w' := by
  obtain ⟨p, cap, rfl, _, h⟩ := h
  obtain ⟨b, off, rfl, h1, h2, h3⟩ := h hl
  obtain ⟨i0, hi, hz0, hz1, hz2⟩ := info_parts Try.info5
  have he : ∀ w : World, (binOp .eql 30 (.slice (some ⟨b, off, none⟩) l.length cap) (.slice none 0 0)).run Try.prog w = .ok (.bool false) w := fun _ => rfl
  have hne : l.length ≠ 0 := fun e => hl (List.length_eq_zero_iff.1 e)
  go_enter Try.func20, Try.ntmps20
  have hown0 : (w.alloc (.cells #[] 5)).ownsRow w.heap.size 5 1 (.slice (some ⟨w.heap.size, 0, none⟩) 0 0) 0 [] := World.ownsRow_lit w #[] 0 (Nat.le_refl _) (by decide) rfl
  have hnews : ∀ j u, (l.map (Value.int .u8))[j]? = some u → (w.alloc (.cells #[] 5)).cell? ((⟨b, off, none⟩ : Addr).add j) = some u := by
    intro j u hj
    simp only [List.getElem?_map, Option.map_eq_some_iff] at hj
    obtain ⟨x, hx, rfl⟩ := hj
    rw [Go.WideShapes.add_plain, World.cell?_alloc_past _ _ _ h2]
    exact h3 j x hx
  go_wp2_with (first
    | (at_builtin; refine wpList_append_own _ rfl (.tmp 5) (.tmp 6) 30 rfl w.heap.size 5 i0 (.int .u8 0) 1 1 Try.underlying30 hi hz0 hz1 hz2 rfl (by decide) _ _ _ rfl hown0 ⟨b, off, none⟩ l.length cap (l.map (Value.int .u8)) rfl (by simp) hnews (ints_oneCell .u8 l) (by unfold maxLen; omega) (by omega) (by simp) ?_))
  intro v' w1 hown hgrow hnil
  go_wp2
  go_ret
  try simp only [Nat.zero_add, List.nil_append] at hown
  have hB : Below w.heap.size w w1 := ((Below.refl _ _).alloc (Nat.le_refl _) _).grown hgrow (by simp) (fun k hk => by simp [Value.ownBlock] at hk; omega)
  rcases hown.2 with ⟨rfl, h0⟩ | ⟨g, cp, cur, rfl, hg, hcell, hq1, hq2, hsz, htake⟩
  · exact absurd h0 hne
  · refine ⟨g, cp, rfl, hg, ⟨_, cp, rfl, by omega, fun _ => ⟨g, 0, rfl, by omega, ?_, fun j x hj => ?_⟩⟩, hB⟩
    · by_cases hgs : g < w1.heap.size
      · exact hgs
      · rw [Array.getElem?_eq_none (by omega)] at hcell; cases hcell
    · have : (cur.toList.take (l.length * 1))[j]? = some (.int .u8 x) := by rw [htake]; simp [hj]
      have hjl : j < l.length := (List.getElem?_eq_some_iff.1 hj).1
      rw [List.getElem?_take_of_lt (by omega)] at this
      simp only [World.cell?, hcell]
      simpa using this
end Go.Proofs.Ytihdjneoemlddaa
