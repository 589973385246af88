/- 'PipeOrder' gives true. -/
import Derived.Test.YtihdjneoemlddaaGrow
namespace Go.Proofs.Ytihdjneoemlddaa
open Go.RowKit Go.Conc

theorem total_flatten (ps : List (List Int)) : total ps = ps.flatten.length := by
  induction ps with
  | nil => rfl
  | cons x ps ih => simp [total, ih]
theorem tk_flat (ps : List (List Int)) : ∀ (n : Nat) (f : List Int), (tk n f ps).1 ++ (tk n f ps).2.1 ++ (tk n f ps).2.2.flatten = f ++ ps.flatten := by
  induction ps with
  | nil => intro n f; simp [tk]
  | cons x ps ih =>
    intro n f
    simp only [tk]
    split
    · simp
    · have := ih (n - f.length) x
      simp only [List.append_assoc] at this ⊢
      rw [this]; simp
theorem tk_le (ps : List (List Int)) : ∀ (n : Nat) (f : List Int), (tk n f ps).1.length ≤ n := by
  induction ps with
  | nil => intro n f; simp [tk]; omega
  | cons x ps ih =>
    intro n f
    simp only [tk]
    split
    · simp; omega
    · have := ih (n - f.length) x
      simp; omega
theorem tk_every (ps : List (List Int)) : ∀ (n : Nat) (f : List Int), f.length + total ps < n → (tk n f ps) = (f ++ ps.flatten, [], []) := by
  induction ps with
  | nil =>
    intro n f h
    simp only [total] at h
    simp only [tk, List.flatten_nil, List.append_nil, List.take_of_length_le (show f.length ≤ n by omega), List.drop_of_length_le (show f.length ≤ n by omega)]
  | cons x ps ih =>
    intro n f h
    simp only [total] at h
    have := ih (n - f.length) x (by omega)
    simp only [tk]
    rw [if_neg (by omega), this]
    simp

/-- Not too many. -/
structure Few (n : Nat) (ins : List Int) : Prop where
  le : ins.length ≤ n

/-- What came in is what went out and what is under way. -/
structure Flat (ins outs first : List Int) (pieces : List (List Int)) : Prop where
  eq : ins = outs ++ first ++ pieces.flatten
theorem Flat.len {ins outs first : List Int} {pieces : List (List Int)} (h : Flat ins outs first pieces) : ins.length = outs.length + first.length + total pieces := by
  rw [h.eq, List.length_append, List.length_append, total_flatten]

/-- How the pipe and both rows stand. -/
structure Stand (B : Nat) (w0 : World) (p c : Nat) (vin vout : Value) (ins outs first : List Int) (pieces : List (List Int)) (Av : Nat → Prop) (w : World) : Prop where
  pip : Pip w Av p c 20 pieces first false
  lt : ∀ k, Av k → k < w.heap.size
  rin : Row w B (fun k => Av k ∧ k ≠ p ∧ k ≠ c) vin ins
  rout : Row w B (fun k => Av k ∧ k ≠ p ∧ k ≠ c) vout outs
  two : ∀ k, vin.ownBlock = some k → vout.ownBlock ≠ some k
  ext : Ext (fun k => B ≤ k) w0 w

namespace Stand
variable {B : Nat} {w0 : World} {p c : Nat} {vin vout : Value} {ins outs first : List Int} {pieces : List (List Int)} {Av : Nat → Prop} {w w' : World}

theorem swap (h : Stand B w0 p c vin vout ins outs first pieces Av w) : Stand B w0 p c vout vin outs ins first pieces Av w :=
  ⟨h.pip, h.lt, h.rout, h.rin, fun k e e' => h.two k e' e, h.ext⟩

theorem turn {S : Nat → Prop} (h : Stand B w0 p c vin vout ins outs first pieces Av w) (hx : Ext S w w') (hs : ∀ k, S k → k < w.heap.size → Av k ∧ k ≠ p ∧ k ≠ c ∧ vin.ownBlock ≠ some k ∧ vout.ownBlock ≠ some k ∧ B ≤ k) (_ : B ≤ w.heap.size := by omega) :
    Stand B w0 p c vin vout ins outs first pieces (fun k => Av k ∨ (w.heap.size ≤ k ∧ k < w'.heap.size)) w' := by
  refine ⟨h.pip.keep hx (fun k hk s => ⟨(hs k s hk).1, (hs k s hk).2.1, (hs k s hk).2.2.1⟩) (fun k hk a => by rcases a with a | a; exact a; omega) (.inl h.pip.avp) (.inl h.pip.avc), ?_, ?_, ?_, h.two, ?_⟩
  · rintro k (a | a)
    · exact Nat.lt_of_lt_of_le (h.lt k a) hx.size
    · exact a.2
  · exact h.rin.keep hx (fun k e s => (hs k s (h.rin.lt k e).2).2.2.2.1 e) (fun k a => ⟨.inl a.1, a.2⟩)
  · exact h.rout.keep hx (fun k e s => (hs k s (h.rout.lt k e).2).2.2.2.2.1 e) (fun k a => ⟨.inl a.1, a.2⟩)
  · refine h.ext.trans (hx.mono fun k hk s => ?_)
    by_cases hkw : k < w.heap.size
    · exact (hs k s hkw).2.2.2.2.2
    · omega

theorem piped {Av' : Nat → Prop} {first' : List Int} {pieces' : List (List Int)} (h : Stand B w0 p c vin vout ins outs first pieces Av w) (hx : Ext (fun k => k = p ∨ k = c) w w') (hp : Pip w' Av' p c 20 pieces' first' false) (ha : ∀ k, Av k → Av' k) (hl : ∀ k, Av' k → k < w'.heap.size)
    (hpb : B ≤ p) (hcb : B ≤ c) : Stand B w0 p c vin vout ins outs first' pieces' Av' w' :=
  ⟨hp, hl, h.rin.keep hx (fun k e s => by have := h.rin.2 k e; rcases s with s | s; exact this.2.1 s; exact this.2.2 s) (fun k a => ⟨ha k a.1, a.2⟩),
    h.rout.keep hx (fun k e s => by have := h.rout.2 k e; rcases s with s | s; exact this.2.1 s; exact this.2.2 s) (fun k a => ⟨ha k a.1, a.2⟩), h.two, h.ext.trans (hx.mono fun k _ s => by rcases s with rfl | rfl; exact hpb; exact hcb)⟩

theorem grown {vin' : Value} {l : List Int} (h : Stand B w0 p c vin vout ins outs first pieces Av w) (hg : w.grownBy w' vin.ownBlock) (hown : w'.ownsRow B 5 1 vin' (ins.length + l.length) (ins.map (.int .u8) ++ l.map (.int .u8)))
    (hat : vin'.ownBlock = vin.ownBlock ∨ vin'.ownBlock = some w.heap.size) :
    Stand B w0 p c vin' vout (ins ++ l) outs first pieces (fun k => Av k ∨ (w.heap.size ≤ k ∧ k < w'.heap.size)) w' := by
  have hx : Ext (fun k => vin.ownBlock = some k) w w' := Ext.grown (Ext.refl _ w) hg (fun k e => .inl e)
  have hl := hown.lt
  have hpl := h.pip.lts
  refine ⟨h.pip.keep hx (fun k hk s => ⟨(h.rin.2 k s).1, (h.rin.2 k s).2.1, (h.rin.2 k s).2.2⟩) (fun k hk a => by rcases a with a | a; exact a; omega) (.inl h.pip.avp) (.inl h.pip.avc), ?_, ⟨by rw [List.length_append, List.map_append]; exact hown, ?_⟩, ?_, ?_, ?_⟩
  · rintro k (a | a)
    · exact Nat.lt_of_lt_of_le (h.lt k a) hx.size
    · exact a.2
  · intro k e
    rcases hat with hat | hat
    · rw [hat] at e; exact ⟨.inl (h.rin.2 k e).1, (h.rin.2 k e).2⟩
    · have := hl k e
      rw [hat] at e; cases e
      exact ⟨.inr ⟨Nat.le_refl _, this.2⟩, by omega, by omega⟩
  · exact h.rout.keep hx (fun k e s => h.two k s e) (fun k a => ⟨.inl a.1, a.2⟩)
  · intro k e e'
    rcases hat with hat | hat
    · rw [hat] at e; exact h.two k e e'
    · rw [hat] at e; cases e
      have := (h.rout.lt _ e').2
      omega
  · exact h.ext.trans (hx.mono fun k _ s => (h.rin.lt k s).1)
end Stand

theorem flat_put {ins outs first bs : List Int} {pieces : List (List Int)} (h : Flat ins outs first pieces) (hr : pieces.length < 20) : Flat (ins ++ bs) outs first (putl false 20 pieces bs) := by
  refine ⟨?_⟩
  rw [h.eq]
  by_cases hb : bs = []
  · simp [putl, hb]
  · simp [putl, hb, hr]

theorem flat_take {ins outs first : List Int} {pieces : List (List Int)} (h : Flat ins outs first pieces) (n : Nat) : Flat ins (outs ++ (tk n first pieces).1) (tk n first pieces).2.1 (tk n first pieces).2.2 := by
  refine ⟨?_⟩
  rw [h.eq, List.append_assoc, List.append_assoc, List.append_assoc, ← tk_flat pieces n first, List.append_assoc]

set_option maxHeartbeats 6400000 in
set_option maxRecDepth 20000 in
theorem order_ok {w : World} {v : Value} {l : List (Int × Int × List Int)} (h : Ops w w.heap.size v l) (hn : l.length ≤ 9223372036854775807) :
    Calls Try.prog 4 #[v] w fun e w' => e = .returned (.bool true) ∧ Below w.heap.size w w' := by
  by_cases hfew : (decide (l.length ≤ 100) && l.all fun x => decide (x.2.2.length ≤ 300)) = true
  · have hf : l.length ≤ 100 ∧ ∀ x ∈ l, x.2.2.length ≤ 300 := by simpa using hfew
    go_enter Try.func4, Try.ntmps4
    go_wp2_with fail
    go_at_call 5
    refine (few_eq h hn).mono ?_
    rintro e w1 ⟨rfl, n, hn1⟩
    have hX : Ext (fun k => w.heap.size ≤ k) w w1 := by rw [hn1]; exact (Ext.refl _ _).drewN n
    rw [hfew]
    clear hn1 hfew
    go_wp2_with fail
    go_at_call 7
    refine (new2 20 w1 (by omega) (by omega) (m := w.heap.size) hX.size).mono ?_
    rintro e w2 ⟨p, c, rfl, hp, ⟨_, hpb, hcb⟩, hX2⟩
    replace hX := hX.trans (hX2.mono (fun _ _ h => h.elim))
    clear hX2
    obtain ⟨q, cap, rfl, hcap, _⟩ := id h
    go_wp2_with fail
    go_loopw [4, 5, 6] (fun vin vout i wr => ∃ (k : Nat) (ins outs first : List Int) (pieces : List (List Int)) (Av : Nat → Prop), k ≤ l.length ∧ i = .int .i64 k ∧ Flat ins outs first pieces ∧ Few (300 * k) ins ∧ Stand w.heap.size w p c vin vout ins outs first pieces Av wr) (fun _ _ i _ => (l.length - intOf i).toNat)
    case atStart => exact ⟨0, [], [], [], [], Two p c, by omega, rfl, ⟨rfl⟩, ⟨by simp⟩, hp, hp.lt2, Row.nil _ _ _, Row.nil _ _ _, fun k h => by simp [Value.ownBlock] at h, hX⟩
    case round =>
      obtain ⟨k, ins, outs, first, pieces, Av, hk, rfl, hflat, hfew, hs⟩ := hrel
      have hins := hfew.le
      obtain ⟨wA, hwA⟩ : ∃ x, x = wr := ⟨_, rfl⟩
      subst hwA
      have hO := h.keep hs.ext (fun _ h => h)
      have hB := hs.ext.size
      have h100 := hf.1
      by_cases hkn : k < l.length
      · obtain ⟨_, _, e, _, hO⟩ := hO
        cases e
        obtain ⟨b, off, rfl, hbB, hbl, g⟩ := hO (by intro h; simp [h] at hkn)
        obtain ⟨⟨kind, num, bs⟩, hx⟩ : ∃ x, l[k]? = some x := ⟨_, List.getElem?_eq_getElem hkn⟩
        obtain ⟨g0, g1, ⟨bv, g2, hbv⟩, r1, r2, r3, r4, r5⟩ := g k _ hx
        have hbs : bs.length ≤ 300 := hf.2 _ (List.mem_of_getElem? hx)
        simp only at g0 g1 g2 hbv r1 r2 r3 r4 r5
        clear g hO
        by_cases hkind : kind = 0
        · subst hkind
          have hown0 : (wA.alloc (.cells #[] 5)).ownsRow wA.heap.size 5 1 (.slice (some ⟨wA.heap.size, 0, none⟩) 0 0) 0 [] := World.ownsRow_lit wA #[] 0 (Nat.le_refl _) (by decide) rfl
          go_wp2_with (first | (at_builtin; refine wpList_append_bs _ rfl (.tmp 29) (.tmp 34) rfl wA.heap.size _ _ _ rfl hown0 bv bs (fun k => w.heap.size ≤ k) rfl (hbv.keep ((Ext.refl (fun _ => False) wA).alloc _) (fun _ _ h => h.elim)) (by omega) (by simp) ?_))
          intro vo w3 hown hgrow hat
          have X3 : Ext (fun _ => False) wA w3 := Ext.grown ((Ext.refl _ wA).alloc _) hgrow (fun k e => .inr (by simp [Value.ownBlock] at e; omega))
          have hob : ∃ g, vo.ownBlock = some g ∧ wA.heap.size ≤ g ∧ g < w3.heap.size := by
            have := hown.lt
            rcases hat with e | e
            · exact ⟨_, e, (this _ e).1, (this _ e).2⟩
            · exact ⟨_, e, (this _ e).1, (this _ e).2⟩
          have ho : Row w3 wA.heap.size (fun k => vo.ownBlock = some k) vo bs := ⟨by simpa using hown, fun _ e => e⟩
          clear hown hgrow hat hown0 hbv g0 g1 g2 r1 r2 r3 r4
          obtain ⟨g, hg, hgl, hgu⟩ := hob
          have hs3 := hs.turn X3 (fun _ h => h.elim) hB
          have hlen : first.length + total pieces ≤ 300 * k := by rw [hflat.eq, List.length_append, List.length_append] at hins; rw [total_flatten]; omega
          go_wp2_with fail
          go_at_call 9
          refine (put_any hs3.pip vo bs _ ho.bs (by omega) (by omega) hs3.lt).mono ?_
          rintro e w4 ⟨rfl, hp4, X4⟩
          have hs4 := hs3.piped X4 hp4 (fun _ a => a) (fun k a => Nat.lt_of_lt_of_le (hs3.lt k a) X4.size) hpb hcb
          have hpl := hs.pip.lts
          have ho4 := ho.keep X4 (fun k e s => by rw [hg] at e; cases e; rcases s with s | s <;> omega) (fun _ a => a)
          obtain ⟨cpo, rfl⟩ : ∃ cp, vo = .slice (some ⟨g, 0, none⟩) bs.length cp := by
            rcases ho.1.2 with ⟨rfl, _⟩ | ⟨g', cap', cur, rfl, _⟩
            · simp [Value.ownBlock] at hg
            · simp [Value.ownBlock] at hg; subst hg; exact ⟨_, rfl⟩
          have hsA := hs
          clear hs hs3 ho X3
          by_cases hr : pieces.length < 20
          · rw [show (!false && decide (pieces.length < 20)) = true by simp [hr]]
            go_wp2_with (first | (at_builtin; refine wpList_append_bs _ rfl (.tmp 39) (.tmp 40) rfl w.heap.size _ _ _ rfl hs4.rin.1 _ bs _ rfl ho4.bs (by omega) (Nat.le_trans hB (Nat.le_trans (by omega) X4.size)) ?_))
            intro vin' w5 hown hgrow hat
            have hs5 := hs4.grown hgrow hown hat
            have X5 := (Ext.grown (Ext.refl (fun k => u4.ownBlock = some k) w4) hgrow (fun k e => .inl e))
            have hgi : ∀ k, u4.ownBlock = some k → k ≠ g := fun k e h => by have := (hsA.rin.lt k e).2; omega
            have hgo : ∀ k, u5.ownBlock = some k → k ≠ g := fun k e h => by have := (hsA.rout.lt k e).2; omega
            have hoT := ho4.keep X5 (fun k e s => hgi k s (Option.some.inj (e.symm.trans hg))) (fun _ a => a)
            have hsT := hs5
            have hT := X5.size
            have h4 := X4.size
            have hvin : ∀ k, vin'.ownBlock = some k → k ≠ g := fun k e h => by
              rcases hat with e' | e'
              · exact hgi k (e'.symm.trans e) h
              · rw [e'] at e; cases e; omega
            clear hgrow hown hat X5 hs5 hs4
            have hgv : ∀ k, vin'.ownBlock = some k → k ≠ g := fun k e h => hvin k e h
            obtain ⟨qi, capi, rfl⟩ := hsT.rin.len
            obtain ⟨qo, capo, rfl⟩ := hsT.rout.len
            clear hg
            go_wp2_with fail
            go_loopw [8] (fun j wr2 => ∃ (k2 : Nat) (l2 : List Int), k2 ≤ bs.length ∧ j = .int .i64 k2 ∧ l2.length = bs.length ∧ Row wr2 wA.heap.size (fun k => some g = some k) (.slice (some ⟨g, 0, none⟩) bs.length cpo) l2 ∧ Ext (fun k => k = g) w5 wr2) (fun j _ => (bs.length - intOf j).toNat)
            case atStart => exact ⟨0, bs, by omega, rfl, rfl, hoT, Ext.refl _ _⟩
            case round =>
              obtain ⟨k2, l2, hk2, rfl, hl2, ho6, X6⟩ := hrel
              by_cases hk2n : k2 < bs.length
              · obtain ⟨y, hy⟩ : ∃ y, l2[k2]? = some y := ⟨_, List.getElem?_eq_getElem (by omega)⟩
                have ho7 : wr.ownsRow wA.heap.size 5 1 (.slice (some ⟨g, 0, none⟩) bs.length cpo) bs.length (l2.map (.int .u8)) := by have := ho6.1; rwa [hl2] at this
                have hc : wr.cell? ⟨g, k2, none⟩ = some (.int .u8 y) := by
                  rw [World.ownsRow.cellAt ho7 k2 (by omega)]
                  simp [hy]
                have hfz : wr.frozen? ⟨g, k2, none⟩ = false := World.ownsRow.frozenAt ho7 k2
                have hst := fun z => (World.ownsRow.stored ho7 k2 (.int .u8 z)).1
                go_wp2_with fail
                go_roundw
                case rel =>
                  refine ⟨k2 + 1, l2.set k2 ((y + 1) % 256), by omega, by go_num, by simpa using hl2, ⟨?_, ho6.2⟩, X6.setCell (p := ⟨g, k2, none⟩) (.inl rfl) _⟩
                  rw [List.map_set, List.length_set, hl2]
                  exact hst _
                case measure => simp [intOf]; omega
              · have hsE := hsT.turn X6 (fun k e hk => by subst e; exact ⟨.inl (.inr ⟨hgl, hgu⟩), by omega, by omega, fun e => hgv _ e rfl, fun e => hgo _ e rfl, by omega⟩) (by omega)
                have hfl := (show Flat (ins ++ bs) outs first (putl false 20 pieces bs) from flat_put hflat hr)
                have hll := hfl.len
                have hif := (show Few (300 * (k + 1)) (ins ++ bs) from ⟨by simp; omega⟩)
                clear hsT hoT X6
                go_wp2_with fail
                go_at_call 14
                refine (len_some hsE.pip).mono ?_
                rintro e w6 ⟨rfl, rfl⟩
                rw [Nat.add_assoc] at hll
                have hle := hif.le
                generalize first.length + total (putl false 20 pieces bs) = tt at *
                generalize (ins ++ bs).length = li at *
                generalize outs.length = lo at *
                subst hll
                have hcmp : ((tt : Int) != (lo : Int) + (tt : Int) - (lo : Int)) = false := by simp; omega
                go_wp2_with fail
                go_roundw
                case rel => exact ⟨k + 1, (ins ++ bs), outs, first, (putl false 20 pieces bs), _, by omega, by go_num, hfl, hif, hsE⟩
                case measure => simp [intOf]; omega
          · rw [show putl false 20 pieces bs = pieces by simp [putl, hr]] at hs4
            have hgi : ∀ k, u4.ownBlock = some k → k ≠ g := fun k e h => by have := (hsA.rin.lt k e).2; omega
            have hgo : ∀ k, u5.ownBlock = some k → k ≠ g := fun k e h => by have := (hsA.rout.lt k e).2; omega
            have hoT := ho4
            have hsT := hs4
            have h4 := X4.size
            clear hs4
            have hgv : ∀ k, u4.ownBlock = some k → k ≠ g := fun k e h => hgi k e h
            rw [show (!false && decide (pieces.length < 20)) = false by simp [hr]]
            obtain ⟨qi, capi, rfl⟩ := hsT.rin.len
            obtain ⟨qo, capo, rfl⟩ := hsT.rout.len
            clear hg
            go_wp2_with fail
            go_loopw [8] (fun j wr2 => ∃ (k2 : Nat) (l2 : List Int), k2 ≤ bs.length ∧ j = .int .i64 k2 ∧ l2.length = bs.length ∧ Row wr2 wA.heap.size (fun k => some g = some k) (.slice (some ⟨g, 0, none⟩) bs.length cpo) l2 ∧ Ext (fun k => k = g) w4 wr2) (fun j _ => (bs.length - intOf j).toNat)
            case atStart => exact ⟨0, bs, by omega, rfl, rfl, hoT, Ext.refl _ _⟩
            case round =>
              obtain ⟨k2, l2, hk2, rfl, hl2, ho6, X6⟩ := hrel
              by_cases hk2n : k2 < bs.length
              · obtain ⟨y, hy⟩ : ∃ y, l2[k2]? = some y := ⟨_, List.getElem?_eq_getElem (by omega)⟩
                have ho7 : wr.ownsRow wA.heap.size 5 1 (.slice (some ⟨g, 0, none⟩) bs.length cpo) bs.length (l2.map (.int .u8)) := by have := ho6.1; rwa [hl2] at this
                have hc : wr.cell? ⟨g, k2, none⟩ = some (.int .u8 y) := by
                  rw [World.ownsRow.cellAt ho7 k2 (by omega)]
                  simp [hy]
                have hfz : wr.frozen? ⟨g, k2, none⟩ = false := World.ownsRow.frozenAt ho7 k2
                have hst := fun z => (World.ownsRow.stored ho7 k2 (.int .u8 z)).1
                go_wp2_with fail
                go_roundw
                case rel =>
                  refine ⟨k2 + 1, l2.set k2 ((y + 1) % 256), by omega, by go_num, by simpa using hl2, ⟨?_, ho6.2⟩, X6.setCell (p := ⟨g, k2, none⟩) (.inl rfl) _⟩
                  rw [List.map_set, List.length_set, hl2]
                  exact hst _
                case measure => simp [intOf]; omega
              · have hsE := hsT.turn X6 (fun k e hk => by subst e; exact ⟨.inr ⟨hgl, hgu⟩, by omega, by omega, fun e => hgv _ e rfl, fun e => hgo _ e rfl, by omega⟩) (by omega)
                have hfl := hflat
                have hll := hfl.len
                have hif := (show Few (300 * (k + 1)) ins from ⟨by omega⟩)
                clear hsT hoT X6
                go_wp2_with fail
                go_at_call 14
                refine (len_some hsE.pip).mono ?_
                rintro e w6 ⟨rfl, rfl⟩
                rw [Nat.add_assoc] at hll
                have hle := hif.le
                generalize first.length + total pieces = tt at *
                generalize ins.length = li at *
                generalize outs.length = lo at *
                subst hll
                have hcmp : ((tt : Int) != (lo : Int) + (tt : Int) - (lo : Int)) = false := by simp; omega
                go_wp2_with fail
                go_roundw
                case rel => exact ⟨k + 1, ins, outs, first, pieces, _, by omega, by go_num, hfl, hif, hsE⟩
                case measure => simp [intOf]; omega
        · have hkb : (kind == 0) = false := by simp [hkind]
          clear hbv g2
          have hlen : first.length + total pieces ≤ 300 * k := by rw [hflat.eq, List.length_append, List.length_append] at hins; rw [total_flatten]; omega
          go_wp2_with fail
          go_at_call 12
          refine (take_some hs.pip num r3 (by omega) hs.lt).mono ?_
          rintro e w3 ⟨vb, rfl, hvo, hp3, X3⟩
          have hfl3 := flat_take hflat num.toNat
          have hlt3 := tk_le pieces num.toNat first
          generalize tk num.toNat first pieces = tt at *
          obtain ⟨out, first', pieces'⟩ := tt
          simp only at hvo hp3 hfl3 hlt3
          have hs3 := hs.piped X3 (hp3.keep (Ext.refl (fun _ => False) _) (fun _ _ h => h.elim) (fun k hk (a : Av k ∨ (wA.heap.size ≤ k ∧ k < w3.heap.size)) => by rcases a with a | a; exact .inl a; exact .inr a.1) (.inl hs.pip.avp) (.inl hs.pip.avc)) (fun _ a => .inl a)
            (fun k a => by rcases a with a | a; exact Nat.lt_of_lt_of_le (hs.lt k a) X3.size; exact a.2) hpb hcb
          have hvb := bs_of_owns hvo
          have X3s := X3.size
          have g1' := (X3.cell (p := ⟨b, off + k * 3 + 1, none⟩) hbl (by rintro (e | e) <;> (simp only at e; omega))).trans g1
          clear hp3 hs X3 hvo
          obtain ⟨qb, cb, rfl, hcb', hvb'⟩ := id hvb
          have hins3 := hfl3.len
          have hle3 : outs.length + out.length ≤ 300 * k := by rw [List.length_append] at hins3; omega
          by_cases hnum : 0 < num
          · have hmx : (out.length : Int) ≤ num := by omega
            go_wp2_with (first | (at_builtin; refine wpList_append_bs _ rfl (.tmp 72) (.tmp 73) rfl w.heap.size _ _ _ rfl hs3.rout.1 _ out _ rfl hvb (by omega) (Nat.le_trans hB X3s) ?_))
            intro vo' w5 hown hgrow hat
            have hs5 := (hs3.swap.grown hgrow hown hat).swap
            clear hown hgrow hat hvb hs3
            obtain ⟨qi, capi, rfl⟩ := hs5.rin.len
            obtain ⟨qo, capo, rfl⟩ := hs5.rout.len
            go_wp2_with fail
            go_at_call 14
            refine (len_some hs5.pip).mono ?_
            rintro e w6 ⟨rfl, rfl⟩
            have hll := hfl3.len
            have hle := hfew.le
            have hfew' : Few (300 * (k + 1)) ins := ⟨by omega⟩
            rw [Nat.add_assoc] at hll
            clear hins3 hfew
            generalize first'.length + total pieces' = tt at *
            generalize ins.length = li at *
            generalize (outs ++ out).length = lo at *
            subst hll
            have hcmp : ((tt : Int) != (lo : Int) + (tt : Int) - (lo : Int)) = false := by simp; omega
            go_wp2_with fail
            go_roundw
            case rel => exact ⟨k + 1, ins, outs ++ out, first', pieces', _, by omega, by go_num, hfl3, hfew', hs5⟩
            case measure => simp [intOf]; omega
          · have hz : out = [] := List.eq_nil_of_length_eq_zero (by omega)
            subst hz
            go_wp2_with (first | (at_builtin; refine wpList_append_bs _ rfl (.tmp 72) (.tmp 73) rfl w.heap.size _ _ _ rfl hs3.rout.1 _ [] _ rfl hvb (by omega) (Nat.le_trans hB X3s) ?_))
            all_goals
              intro vo' w5 hown hgrow hat
              have hs5 := (hs3.swap.grown (l := []) hgrow (by simpa using hown) hat).swap
              clear hown hgrow hat hvb hs3
              obtain ⟨qi, capi, rfl⟩ := hs5.rin.len
              obtain ⟨qo, capo, rfl⟩ := hs5.rout.len
              go_wp2_with fail
              go_at_call 14
              refine (len_some hs5.pip).mono ?_
              rintro e w6 ⟨rfl, rfl⟩
              have hll := hfl3.len
              have hle := hfew.le
              have hfew' : Few (300 * (k + 1)) ins := ⟨by omega⟩
              rw [Nat.add_assoc] at hll
              clear hins3 hfew
              generalize first'.length + total pieces' = tt at *
              generalize ins.length = li at *
              generalize (outs ++ []).length = lo at *
              subst hll
              have hcmp : ((tt : Int) != (lo : Int) + (tt : Int) - (lo : Int)) = false := by simp; omega
              go_wp2_with fail
              go_roundw
              case rel => exact ⟨k + 1, ins, outs ++ [], first', pieces', _, by omega, by go_num, hfl3, hfew', hs5⟩
              case measure => simp [intOf]; omega
      · have hlen : first.length + total pieces ≤ 300 * k := by rw [hflat.eq, List.length_append, List.length_append] at hins; rw [total_flatten]; omega
        go_wp2_with fail
        go_at_call 12
        refine (take_some hs.pip 1000000 (by omega) (by omega) hs.lt).mono ?_
        rintro e w3 ⟨vb, rfl, hvo, hp3, X3⟩
        rw [show ((1000000 : Int).toNat) = 1000000 by rfl, tk_every _ _ _ (by omega)] at hvo hp3
        have hs3 := hs.piped X3 (hp3.keep (Ext.refl (fun _ => False) _) (fun _ _ h => h.elim) (fun k hk (a : Av k ∨ (wA.heap.size ≤ k ∧ k < w3.heap.size)) => by rcases a with a | a; exact .inl a; exact .inr a.1) (.inl hs.pip.avp) (.inl hs.pip.avc)) (fun _ a => .inl a)
          (fun k a => by rcases a with a | a; exact Nat.lt_of_lt_of_le (hs.lt k a) X3.size; exact a.2) hpb hcb
        have hvb := bs_of_owns hvo
        have X3s := X3.size
        have hll := hflat.len
        have hrest : (first ++ pieces.flatten).length = first.length + total pieces := by rw [total_flatten, List.length_append]
        have heq : ins = outs ++ (first ++ pieces.flatten) := by rw [← List.append_assoc]; exact hflat.eq
        have heq' : Flat ins outs (first ++ pieces.flatten) [] := ⟨by simp only [List.flatten_nil, List.append_nil]; exact heq⟩
        generalize hout : first ++ pieces.flatten = out at *
        have hbd : outs.length + out.length ≤ 300 * k := by omega
        clear hp3 hs X3 hvo hll hrest heq hout hfew
        go_wp2_with (first | (at_builtin; refine wpList_append_bs _ rfl (.tmp 83) (.tmp 85) rfl w.heap.size _ _ _ rfl hs3.rout.1 vb out _ rfl hvb (by omega) (Nat.le_trans hB X3s) ?_))
        intro vo' w5 hown hgrow hat
        have hs5 := (hs3.swap.grown hgrow hown hat).swap
        clear hown hgrow hat hvb hs3
        go_wp2_with fail
        go_at_call 11
        refine (bytes_eq _ _ _ _ _ _ _ hs5.rin.bs hs5.rout.bs (by omega)).mono ?_
        rintro e w6 ⟨rfl, n6, hn6⟩
        have hX6 : Ext (fun k => w.heap.size ≤ k) w w6 := by rw [hn6]; exact hs5.ext.drewN n6
        have X6 : Ext (fun _ => False) w5 w6 := by rw [hn6]; exact (Ext.refl _ w5).drewN n6
        have hp6 := hs5.pip.keep X6 (fun _ _ h => h.elim) (fun _ _ a => a) hs5.pip.avp hs5.pip.avc
        rw [show decide (ins = outs ++ out) = true from decide_eq_true (by have := heq'.eq; simpa using this)]
        clear hn6 hs5 heq' hflat hins hX
        go_wp2_with fail
        go_at_call 14
        refine (len_some hp6).mono ?_
        rintro e w7 ⟨rfl, rfl⟩
        simp only [total, List.length_nil, Nat.add_zero, Int.natCast_zero]
        go_wp2_with fail
        go_at_call 16
        refine (pieces_some hp6).mono ?_
        rintro e w7 ⟨rfl, rfl⟩
        simp only [List.length_nil, Int.natCast_zero]
        go_wp2_with fail
        go_at_call 6
        refine (sure_ok _).mono ?_
        rintro e w8 ⟨rfl, hB8⟩
        go_wp2_with fail
        go_ret
        exact ⟨rfl, (hX6.below (Nat.le_refl _) (fun k hk => by omega)).trans (hB8.mono hX6.size)⟩
  · rw [Bool.not_eq_true] at hfew
    go_enter Try.func4, Try.ntmps4
    go_wp2_with fail
    go_at_call 5
    refine (few_eq h hn).mono ?_
    rintro e w1 ⟨rfl, n, hn1⟩
    have hX : Ext (fun k => w.heap.size ≤ k) w w1 := by rw [hn1]; exact (Ext.refl _ _).drewN n
    rw [hfew]
    clear hn1 hfew
    go_wp2_with fail
    go_at_call 6
    refine (sure_ok _).mono ?_
    rintro e w8 ⟨rfl, hB8⟩
    go_wp2_with fail
    go_ret
    exact ⟨rfl, (hX.below (Nat.le_refl _) (fun k hk => by omega)).trans (hB8.mono hX.size)⟩
end Go.Proofs.Ytihdjneoemlddaa
