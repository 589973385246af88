/- Bytes in memory, and what Bytes and Clone do. -/
import Derived.Test.YtlacngdbembkkaaRows
import Derived.WalkKit
import Derived.ProofKit
import Derived.Below
import Derived.BigQuiet
import Derived.Maps.AppendAt
import Derived.Laws.OwnMore
namespace Go.Proofs.Ytlacngdbembkkaa
open Go.RowKit
/-- Of the blocks that were there only those of S may have changed. -/
structure Ext (S : Nat → Prop) (w w' : World) : Prop where
  os : w'.os = w.os
  tape : w'.tape = w.tape
  output : w'.output = w.output
  size : w.heap.size ≤ w'.heap.size
  block : ∀ k, k < w.heap.size → ¬ S k → w'.heap[k]? = w.heap[k]?

namespace Ext
theorem refl (S) (w : World) : Ext S w w := ⟨rfl, rfl, rfl, Nat.le_refl _, fun _ _ _ => rfl⟩
theorem trans {S} {a b c : World} (h : Ext S a b) (k : Ext S b c) : Ext S a c :=
  ⟨k.os.trans h.os, k.tape.trans h.tape, k.output.trans h.output, Nat.le_trans h.size k.size, fun i hi hs => (k.block i (Nat.lt_of_lt_of_le hi h.size) hs).trans (h.block i hi hs)⟩
theorem mono {S T : Nat → Prop} {a b : World} (h : Ext S a b) (hs : ∀ k, k < a.heap.size → S k → T k) : Ext T a b :=
  ⟨h.os, h.tape, h.output, h.size, fun i hi ht => h.block i hi (fun s => ht (hs i hi s))⟩
theorem drew {S} {a w : World} (h : Ext S a w) : Ext S a w.drew := ⟨h.os, h.tape, h.output, h.size, h.block⟩
theorem drewN {S} {a w : World} (h : Ext S a w) (n : Nat) : Ext S a (w.drewN n) := ⟨h.os, h.tape, h.output, h.size, h.block⟩
theorem alloc {S} {a w : World} (h : Ext S a w) (o : Obj) : Ext S a (w.alloc o) :=
  h.trans ⟨rfl, rfl, rfl, by simp, fun k hk _ => Below.heap_alloc _ _ _ hk⟩
theorem setCell {S} {a w : World} (h : Ext S a w) {p : Addr} (hp : S p.block ∨ a.heap.size ≤ p.block) (u : Value) : Ext S a (w.setCell p u) :=
  ⟨h.os, h.tape, h.output, by simpa [World.setCell] using h.size, fun k hk hs => by
    rw [Below.heap_setCell _ _ _ _ (by rintro rfl; rcases hp with hp | hp; exact hs hp; omega)]; exact h.block k hk hs⟩
theorem cell {S} {w w' : World} (h : Ext S w w') {p : Addr} (hp : p.block < w.heap.size) (hs : ¬ S p.block) : w'.cell? p = w.cell? p := World.cell?_of_block (w := w) (h.block p.block hp hs)
theorem frozen {S} {w w' : World} (h : Ext S w w') {p : Addr} (hp : p.block < w.heap.size) (hs : ¬ S p.block) : w'.frozen? p = w.frozen? p := World.frozen?_of_block (w := w) (h.block p.block hp hs)
theorem below {S} {w w' : World} (h : Ext S w w') {B : Nat} (hB : B ≤ w.heap.size) (hs : ∀ k, k < B → ¬ S k) : Below B w w' :=
  ⟨h.os, h.tape, h.output, h.size, fun k hk => h.block k (Nat.lt_of_lt_of_le hk hB) (hs k hk)⟩
end Ext


/-- A slice value that reads as these bytes, in a block that Av does not name. -/
def Bs (w : World) (Av : Nat → Prop) (v : Value) (l : List Int) : Prop :=
  ∃ p cap, v = .slice p l.length cap ∧ l.length ≤ cap ∧ (l ≠ [] → ∃ b off, p = some ⟨b, off, none⟩ ∧ ¬ Av b ∧ b < w.heap.size ∧ ∀ j x, l[j]? = some x → w.cell? ⟨b, off + j, none⟩ = some (.int .u8 x))
theorem Bs.keep {w w' : World} {Av S : Nat → Prop} {v : Value} {l : List Int} (h : Bs w Av v l) (hx : Ext S w w') (hs : ∀ k, k < w.heap.size → S k → Av k) : Bs w' Av v l := by
  obtain ⟨p, cap, rfl, hcp, h⟩ := h
  refine ⟨p, cap, rfl, hcp, fun hl => ?_⟩
  obtain ⟨b, off, rfl, h1, h2, h3⟩ := h hl
  exact ⟨b, off, rfl, h1, Nat.lt_of_lt_of_le h2 hx.size, fun j x e => (hx.cell (p := ⟨b, off + j, none⟩) h2 (fun s => h1 (hs b h2 s))).trans (h3 j x e)⟩
theorem Bs.mono {w : World} {Av Av' : Nat → Prop} {v : Value} {l : List Int} (h : Bs w Av v l) (hs : ∀ k, k < w.heap.size → Av' k → Av k) : Bs w Av' v l := by
  obtain ⟨p, cap, rfl, hcp, h⟩ := h
  refine ⟨p, cap, rfl, hcp, fun hl => ?_⟩
  obtain ⟨b, off, rfl, h1, h2, h3⟩ := h hl
  exact ⟨b, off, rfl, fun s => h1 (hs b h2 s), h2, h3⟩

set_option maxHeartbeats 800000 in
theorem bytes_eq (va vb : Value) (la lb : List Int) (Av Av' : Nat → Prop) (w : World) (ha : Bs w Av va la) (hb : Bs w Av' vb lb) (hn : la.length ≤ 1000000) :
    Calls Try.prog 18 #[va, vb] w fun e w' => e = .returned (.bool (decide (la = lb))) ∧ ∃ n, w' = w.drewN n := by
  obtain ⟨pa, ca, rfl, _, ha⟩ := ha
  obtain ⟨pb, cb, rfl, _, hb⟩ := hb
  by_cases hl : la.length = lb.length
  · have hl' : ((la.length : Int) == (lb.length : Int)) = true := by simp [hl]
    go_enter Try.func18, Try.ntmps18
    go_wp2_with fail
    go_loopw [5] (fun i wr => ∃ k m : Nat, k ≤ la.length ∧ i = .int .i64 k ∧ (∀ j, j < k → la[j]? = lb[j]?) ∧ wr = w.drewN m) (fun i _ => (la.length - intOf i).toNat)
    case atStart => exact ⟨0, 0, by omega, rfl, fun j hj => by omega, rfl⟩
    case round =>
      obtain ⟨k, m, hk, rfl, heq, rfl⟩ := hrel
      by_cases hkn : k < la.length
      · obtain ⟨ba, oa, rfl, _, _, ga⟩ := ha (by intro h; simp [h] at hkn)
        obtain ⟨bb, ob, rfl, _, _, gb⟩ := hb (by intro h; rw [h] at hl; simp at hl; simp [hl] at hkn)
        obtain ⟨x, hx⟩ : ∃ x, la[k]? = some x := ⟨_, List.getElem?_eq_getElem hkn⟩
        obtain ⟨y, hy⟩ : ∃ y, lb[k]? = some y := ⟨_, List.getElem?_eq_getElem (hl ▸ hkn)⟩
        have ca' := ga k x hx
        have cb' := gb k y hy
        have hkb : (k : Int) < (lb.length : Int) := by omega
        have hka : (k : Int) < (la.length : Int) := by omega
        by_cases hxy : x = y
        · have hxy' : (x == y) = true := by simp [hxy]
          have hh : la[k]? = lb[k]? := by rw [hx, hy, hxy]
          go_wp2_with fail
          go_quiet (fail)
          go_wp2
          go_roundw
          case rel => exact ⟨k + 1, _, by omega, by go_num, fun j hj => by rcases Nat.lt_succ_iff_lt_or_eq.1 hj with h | rfl; exact heq j h; exact hh, rfl⟩
          case measure => simp [intOf]; omega
        · have hxy' : (x == y) = false := by simp [hxy]
          have hne : la ≠ lb := by
            rintro rfl
            exact hxy (Option.some.inj (hx.symm.trans hy))
          go_wp2_with fail
          go_quiet (fail)
          go_wp2
          go_ret
          exact ⟨by simp [hne], m + nq, by simp [World.drewN, Nat.add_assoc]⟩
      · have he : la = lb := by
          apply List.ext_getElem? 
          intro j
          by_cases hj : j < k
          · exact heq j hj
          · rw [List.getElem?_eq_none (by omega), List.getElem?_eq_none (by omega)]
        go_wp2
        go_ret
        exact ⟨by simp [he], _, rfl⟩
  · have hl' : ((la.length : Int) == (lb.length : Int)) = false := by simp; omega
    have hne : la ≠ lb := by rintro rfl; exact hl rfl
    go_enter Try.func18, Try.ntmps18
    go_wp2
    go_ret
    exact ⟨by simp [hne], 0, rfl⟩


theorem lt_of_block {w : World} {g : Nat} {o : Obj} (h : w.heap[g]? = some o) : g < w.heap.size := (Array.getElem?_eq_some_iff.1 h).1
theorem Try.info5 : (Try.prog.info? 5).map (fun i => (i.zero, i.size, i.bytes)) = some (some (.int .u8 0), 1, 1) := by kernel_rfl
theorem run_append_nothing {P : Program} {w : World} (base : Nat) (t ty e : TypeId) (i : TypeInfo) (size : Nat) (ht : P.underlying t = some (.slice e)) (hi : P.info? e = some i)
    (v : Value) (n : Nat) (xs : List Value) (hown : w.ownsRow base e size v n xs) (c : Nat) :
    (Builtin.append_ #[t, t] ty #[v, .slice none 0 c]).run P w = .ok v w := by
  rcases hown.2 with ⟨rfl, rfl⟩ | ⟨g, cap, cur, rfl, _, _, hnc, _⟩
  · simp [Builtin.append_, run_underlying ht, sizeOf, typeInfo, hi, Builtin.lenOf, Builtin.firstCells]
  · simp [Builtin.append_, run_underlying ht, sizeOf, typeInfo, hi, Builtin.lenOf, Builtin.firstCells, hnc, storeCells]

theorem wpList_append_bs (w : World) {ops : Array Oper} {rest : List Oper} {o : Oper} {a : Act} {Q : Exit → Act → World → Prop} (hgd : o.guard = none) (s x : Operand)
    (ho : o.op = .call { callee := .builtin .append, args := #[s, x], argTypes := #[27, 27] }) (base : Nat)
    (v : Value) (n : Nat) (xs : List Value) (hs : a.eval s = v) (hown : w.ownsRow base 5 1 v n xs)
    (u : Value) (l : List Int) (Av : Nat → Prop) (hx : a.eval x = u) (hb : Bs w Av u l) (hn : n + l.length ≤ 1000000000) (hbase : base ≤ w.heap.size)
    (h : ∀ v' w', w'.ownsRow base 5 1 v' (n + l.length) (xs ++ l.map (.int .u8)) → w.grownBy w' v.ownBlock → (v'.ownBlock = v.ownBlock ∨ v'.ownBlock = some w.heap.size) → wpList Try.prog ops Q rest (a.put o.dst v') w') : wpList Try.prog ops Q (o :: rest) a w := by
  obtain ⟨i0, hi, hz0, hz1, hz2⟩ := info_parts Try.info5
  obtain ⟨q, cap, rfl, hcp, hb⟩ := hb
  by_cases hl : l = []
  · subst hl
    cases q with
    | some ad =>
      exact wpList_append_own_at w hgd s x 27 ho base 5 i0 (.int .u8 0) 1 1 Try.underlying27 hi hz0 hz1 hz2 rfl (by decide) v n xs hs hown ad 0 cap [] hx rfl (fun j u h => by simp at h) (fun u h => by simp at h) (by unfold maxLen; simp at hn ⊢; omega) (by simp at hn ⊢; omega) hbase
        (fun v' w' h1 h2 _ h3 => h v' w' (by simpa using h1) h2 h3)
    | none =>
      refine wpList_plain hgd fun K hK => ?_
      have hrun := run_append_nothing (P := Try.prog) (w := w) base 27 o.type 5 i0 1 Try.underlying27 hi v n xs hown cap
      unfold Oper.wp
      simp [execOp, ho, resolve, invoke, builtin, hs, hx, hrun, Result.andThen]
      exact hK _ _ (h v w (by simpa using hown) ⟨rfl, rfl, rfl, Nat.le_refl _, fun _ _ _ => rfl⟩ (.inl rfl))
  · obtain ⟨b, off, rfl, _, _, hc⟩ := hb hl
    exact wpList_append_own_at w hgd s x 27 ho base 5 i0 (.int .u8 0) 1 1 Try.underlying27 hi hz0 hz1 hz2 rfl (by decide) v n xs hs hown ⟨b, off, none⟩ l.length cap (l.map (.int .u8)) hx (by simp) (fun j u hj => by
        simp only [List.getElem?_map, Option.map_eq_some_iff] at hj
        obtain ⟨y, hy, rfl⟩ := hj
        rw [Go.WideShapes.add_plain]
        exact hc j y hy) (ints_oneCell .u8 l) (by unfold maxLen; omega) (by omega) hbase
      (fun v' w' h1 h2 _ h3 => h v' w' h1 h2 h3)

/-- A row of one's own, in none of the blocks that are not Av. -/
def Row (w : World) (B : Nat) (Av : Nat → Prop) (v : Value) (l : List Int) : Prop :=
  w.ownsRow B 5 1 v l.length (l.map (.int .u8)) ∧ ∀ k, v.ownBlock = some k → Av k

theorem Row.nil (w : World) (B : Nat) (Av : Nat → Prop) : Row w B Av (.slice none 0 0) [] := ⟨World.ownsRow_nil _ _ _ _, fun k h => by simp [Value.ownBlock] at h⟩
theorem Row.keep {w w' : World} {B : Nat} {Av Av' S : Nat → Prop} {v : Value} {l : List Int} (h : Row w B Av v l) (hx : Ext S w w') (hs : ∀ k, v.ownBlock = some k → ¬ S k) (ha : ∀ k, Av k → Av' k) : Row w' B Av' v l := by
  refine ⟨⟨h.1.1, ?_⟩, fun k e => ha k (h.2 k e)⟩
  rcases h.1.2 with hn | ⟨g, cap, cur, hv, hb, hg, rest⟩
  · exact .inl hn
  · exact .inr ⟨g, cap, cur, hv, hb, (hx.block g (lt_of_block hg) (hs g (by rw [hv]; rfl))).trans hg, rest⟩
theorem Row.bs {w : World} {B : Nat} {Av : Nat → Prop} {v : Value} {l : List Int} (h : Row w B Av v l) : Bs w (fun k => ¬ Av k ∨ k < B ∨ v.ownBlock ≠ some k) v l := by
  rcases h.1.2 with ⟨rfl, h0⟩ | ⟨g, cap, cur, rfl, hb, hg, hc, hm, hsz, ht⟩
  · exact ⟨none, 0, by rw [h0], by omega, fun hl => absurd (List.length_eq_zero_iff.1 h0) hl⟩
  · refine ⟨some ⟨g, 0, none⟩, cap, rfl, hc, fun hl => ⟨g, 0, rfl, ?_, lt_of_block hg, fun j x hj => ?_⟩⟩
    · rintro (s | s | s)
      · exact s (h.2 g rfl)
      · omega
      · exact s rfl
    · have : (cur.toList.take (l.length * 1))[j]? = some (.int .u8 x) := by rw [ht]; simp [hj]
      have hjl : j < l.length := (List.getElem?_eq_some_iff.1 hj).1
      rw [List.getElem?_take_of_lt (by omega)] at this
      simp only [World.cell?, hg]
      simpa using this
theorem Row.lt {w : World} {B : Nat} {Av : Nat → Prop} {v : Value} {l : List Int} (h : Row w B Av v l) : ∀ k, v.ownBlock = some k → B ≤ k ∧ k < w.heap.size := h.1.lt
theorem Row.len {w : World} {B : Nat} {Av : Nat → Prop} {v : Value} {l : List Int} (h : Row w B Av v l) : ∃ q cap, v = .slice q l.length cap := by
  rcases h.1.2 with ⟨rfl, h0⟩ | ⟨g, cap, cur, rfl, _⟩
  · exact ⟨none, 0, by rw [h0]⟩
  · exact ⟨_, cap, rfl⟩

/-- A fresh row of bytes. -/
def Own5 (w : World) (B : Nat) (v : Value) (l : List Int) : Prop := w.ownsRow B 5 1 v l.length (l.map (.int .u8))
theorem Own5.bs {w : World} {B : Nat} {v : Value} {l : List Int} (h : Own5 w B v l) : Bs w (fun k => k < B) v l :=
  (Row.bs (Av := fun _ => True) ⟨h, fun _ _ => trivial⟩).mono fun _ _ hk => .inr (.inl hk)

set_option maxHeartbeats 800000 in
theorem clone_any (v : Value) (l : List Int) (Av : Nat → Prop) (w : World) (h : Bs w Av v l) (hn : l.length ≤ 1000000) :
    Calls Try.prog 24 #[v] w fun e w' => ∃ v', e = .returned v' ∧ Own5 w' w.heap.size v' l ∧ Below w.heap.size w w' := by
  have h0 := h
  obtain ⟨p, cap, rfl, hcp, h⟩ := h
  by_cases hp : p = none
  · subst hp
    have hl : l = [] := Decidable.byContradiction fun hne => by obtain ⟨b, off, e, _⟩ := h hne; cases e
    subst hl
    have he : ∀ w : World, (binOp .eql 27 (.slice none 0 cap) (.slice none 0 0)).run Try.prog w = .ok (.bool true) w := fun _ => rfl
    go_enter Try.func24, Try.ntmps24
    go_wp2
    go_ret
    exact ⟨_, rfl, World.ownsRow_nil _ _ _ _, Below.refl _ _⟩
  · obtain ⟨ad, rfl⟩ : ∃ ad, p = some ad := by cases p with | none => exact absurd rfl hp | some ad => exact ⟨ad, rfl⟩
    have he : ∀ w : World, (binOp .eql 27 (.slice (some ad) l.length cap) (.slice none 0 0)).run Try.prog w = .ok (.bool false) w := fun _ => rfl
    have hown0 : (w.alloc (.cells #[] 5)).ownsRow w.heap.size 5 1 (.slice (some ⟨w.heap.size, 0, none⟩) 0 0) 0 [] := World.ownsRow_lit w #[] 0 (Nat.le_refl _) (by decide) rfl
    have hb1 : Bs (w.alloc (.cells #[] 5)) Av (.slice (some ad) l.length cap) l := h0.keep ((Ext.refl (fun _ => False) w).alloc _) (fun _ _ h => h.elim)
    go_enter Try.func24, Try.ntmps24
    go_wp2_with (first
      | (at_builtin; refine wpList_append_bs _ rfl (.tmp 5) (.tmp 6) rfl w.heap.size _ _ _ rfl hown0 _ l Av rfl hb1 (by omega) (by simp) ?_))
    intro v' w1 hown hgrow _
    go_wp2
    go_ret
    try simp only [Nat.zero_add, List.nil_append] at hown
    have hB : Below w.heap.size w w1 := ((Below.refl _ _).alloc (Nat.le_refl _) _).grown hgrow (by simp) (fun k hk => by simp [Value.ownBlock] at hk; omega)
    exact ⟨_, rfl, hown, hB⟩
end Go.Proofs.Ytlacngdbembkkaa
