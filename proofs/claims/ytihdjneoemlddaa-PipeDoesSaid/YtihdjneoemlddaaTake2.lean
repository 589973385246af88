/- What next and Take do, in any case. -/
import Derived.Test.YtihdjneoemlddaaTake
namespace Go.Proofs.Ytihdjneoemlddaa
open Go.RowKit Go.Conc

theorem next_any {w : World} {Av : Nat → Prop} {p c room : Nat} {pieces : List (List Int)} {first : List Int} {cl : Bool} (h : Pip w Av p c room pieces first cl) :
    Calls Try.prog 21 #[.pointer (some ⟨p, 0, none⟩)] w fun e w' =>
      (first = [] ∧ pieces = [] ∧ e = .returned (.bool false) ∧ w' = w) ∨
      ∃ f ps, e = .returned (.bool true) ∧ f ≠ [] ∧ f.length + total ps = first.length + total pieces ∧ Pip w' Av p c room ps f cl ∧ Ext (fun k => k = p ∨ k = c) w w' ∧ ∀ n, 0 < n → tk n first pieces = tk n f ps := by
  obtain ⟨fv, c1, q, cap, rfl, hcp, bs⟩ := h.c1
  obtain ⟨buf, s, r, hb, h1, hps⟩ := h.ch
  by_cases hf : first = []
  · subst hf
    cases pieces with
    | nil =>
      have : buf = #[] := Array.eq_empty_of_size_eq_zero (by simpa using h1)
      subst this
      refine (next_none p c room s r w q cap h.c0 c1 hb).mono ?_
      rintro e w' ⟨rfl, rfl⟩
      exact .inl ⟨rfl, rfl, rfl, rfl⟩
    | cons x ps =>
      have hx := hps 0 x rfl
      obtain ⟨qx, cx, ex, hcx, bx⟩ := hx
      have hl := h.loaded hb (by simpa using h1) hps
      rw [ex] at hl
      refine (next_recv p c room buf false s r w q cap h.c0 c1 h.f1 hb (by simp at h1; omega) h.ne qx x.length cx ex).mono ?_
      rintro e w' ⟨rfl, rfl⟩
      exact .inr ⟨x, ps, rfl, h.full x (by simp), by simp [total], hl, (ext_setChan (Ext.refl _ w) c _ _ _ _ _ _ (.inl (.inr rfl))).setCell (p := ⟨p, 1, none⟩) (.inl (.inl rfl)) _, fun n hn => tk_load x ps hn⟩
  · have hl : 0 < first.length := Nat.pos_of_ne_zero fun e => hf (List.length_eq_zero_iff.1 e)
    refine (next_has p w q first.length cap hl c1).mono ?_
    rintro e w' ⟨rfl, rfl⟩
    exact .inr ⟨first, pieces, rfl, hf, rfl, h, Ext.refl _ _, fun _ _ => rfl⟩

theorem owns_keep {S : Nat → Prop} {w w' : World} {base : Nat} {v : Value} {n : Nat} {xs : List Value} {ty sz : Nat} (h : w.ownsRow base ty sz v n xs) (hx : Ext S w w') (hs : ∀ k, S k → k < base) : w'.ownsRow base ty sz v n xs := by
  refine ⟨h.1, ?_⟩
  rcases h.2 with hn | ⟨g, cap, cur, hv, hb, hg, rest⟩
  · exact .inl hn
  · exact .inr ⟨g, cap, cur, hv, hb, (hx.block g (lt_of_block hg) (fun s => by have := hs g s; omega)).trans hg, rest⟩

theorem bs_of_owns {w : World} {base : Nat} {v : Value} {l : List Int} (h : w.ownsRow base 5 1 v l.length (l.map (.int .u8))) : Bs w (fun k => k < base) v l := by
  rcases h.2 with ⟨rfl, h0⟩ | ⟨g, cap, cur, rfl, hb, hg, hc, hm, hsz, ht⟩
  · exact ⟨none, 0, by rw [h0], by omega, fun hl => absurd (List.length_eq_zero_iff.1 h0) hl⟩
  · refine ⟨some ⟨g, 0, none⟩, cap, rfl, hc, fun hl => ⟨g, 0, rfl, by omega, lt_of_block hg, fun j x hj => ?_⟩⟩
    have : (cur.toList.take (l.length * 1))[j]? = some (.int .u8 x) := by rw [ht]; simp [hj]
    have hjl : j < l.length := (List.getElem?_eq_some_iff.1 hj).1
    rw [List.getElem?_take_of_lt (by omega)] at this
    simp only [World.cell?, hg]
    simpa using this

theorem ext_grown {S : Nat → Prop} {w w' : World} {row : Option Nat} (h : w.grownBy w' row) (hs : ∀ k, row = some k → S k) : Ext S w w' :=
  ⟨h.os, h.tape, h.output, h.size, fun k hk ns => h.block k hk (fun e => ns (hs k e.symm))⟩

theorem tk_len (n : Nat) (ps : List (List Int)) : ∀ first, (tk n first ps).1.length ≤ first.length + total ps := by
  induction ps generalizing n with
  | nil => intro first; simp [tk, total]; omega
  | cons x ps ih =>
    intro first
    simp only [tk]
    split
    · simp; omega
    · have := ih (n - first.length) x
      simp [total]; omega

theorem Ext.grown {S : Nat → Prop} {a w w' : World} {row : Option Nat} (h : Ext S a w) (hg : w.grownBy w' row) (hrow : ∀ k, row = some k → S k ∨ a.heap.size ≤ k) : Ext S a w' :=
  ⟨hg.os.trans h.os, hg.tape.trans h.tape, hg.output.trans h.output, Nat.le_trans h.size hg.size, fun k hk ns =>
    (hg.block k (Nat.lt_of_lt_of_le hk h.size) (fun e => by rcases hrow k e.symm with s | s; exact ns s; omega)).trans (h.block k hk ns)⟩

theorem ext_cell1 {w1 w2 w3 : World} {row : Option Nat} {p o : Nat} (hg : w2.grownBy w3 row) (hrow : ∀ k, row = some k → w1.heap.size ≤ k) (hp : p < w1.heap.size) (hs : w1.heap.size ≤ w2.heap.size := by assumption) : w3.cell? ⟨p, o, none⟩ = w2.cell? ⟨p, o, none⟩ :=
  World.cell?_of_block (hg.block p (by omega) (fun e => by have := hrow p e.symm; omega))

set_option maxHeartbeats 3200000 in
theorem take_some {w : World} {Av : Nat → Prop} {p c room : Nat} {pieces : List (List Int)} {first : List Int} {cl : Bool} (h : Pip w Av p c room pieces first cl) (n : Int) (hn : n ≤ 9223372036854775807)
    (htot : first.length + total pieces ≤ 1000000000) (hlt : ∀ k, Av k → k < w.heap.size) :
    Calls Try.prog 12 #[.pointer (some ⟨p, 0, none⟩), .int .i64 n] w fun e w' => ∃ v, e = .returned v ∧
      w'.ownsRow w.heap.size 5 1 v (tk n.toNat first pieces).1.length ((tk n.toNat first pieces).1.map (.int .u8)) ∧ Pip w' (fun k => Av k ∨ w.heap.size ≤ k) p c room (tk n.toNat first pieces).2.2 (tk n.toNat first pieces).2.1 cl ∧ Ext (fun k => k = p ∨ k = c) w w' := by
  have h0 := h.c0
  obtain ⟨i0, hi, hz0, hz1, hz2⟩ := info_parts Try.info5
  have hpl := hlt p h.avp
  have hcl := hlt c h.avc
  go_enter Try.func12, Try.ntmps12
  go_wp2_with fail
  go_at_call 19
  refine (none_some p c _ h0).mono ?_
  rintro e w1 ⟨rfl, rfl⟩
  clear h0
  go_wp2_with fail
  go_loopw [1, 4] (fun m v wr => ∃ (m' : Int) (acc f : List Int) (ps : List (List Int)), m = .int .i64 m' ∧ m' ≤ n ∧ acc.length + f.length + total ps = first.length + total pieces ∧ wr.ownsRow w1.heap.size 5 1 v acc.length (acc.map (.int .u8)) ∧ Pip wr (fun k => Av k ∨ w1.heap.size ≤ k) p c room ps f cl ∧
      Ext (fun k => k = p ∨ k = c) w1 wr ∧ acc ++ (tk m'.toNat f ps).1 = (tk n.toNat first pieces).1 ∧ (tk m'.toNat f ps).2 = (tk n.toNat first pieces).2) (fun m _ _ => (intOf m).toNat)
  case atStart =>
    exact ⟨n, [], first, pieces, rfl, Int.le_refl _, by simp, World.ownsRow_nil _ _ _ _, h.keep (Ext.refl (fun _ => False) _) (fun _ _ h => h.elim) (fun k hk a => by rcases a with a | a; exact a; omega) (.inl h.avp) (.inl h.avc), Ext.refl _ _, by simp, rfl⟩
  case round =>
    obtain ⟨m', acc, f, ps, rfl, hmn, hsum, hown, hpip, hX, ha1, ha2⟩ := hrel
    by_cases hm : 0 < m'
    · go_wp2_with fail
      go_at_call 21
      refine (next_any hpip).mono ?_
      rintro e w2 (⟨rfl, rfl, rfl, rfl⟩ | ⟨f', ps', rfl, hf, hsum', hp2, X2, htk⟩)
      · go_wp2
        go_ret
        have e1 : tk m'.toNat [] [] = ([], [], []) := by simp [tk]
        rw [e1] at ha1 ha2
        rw [← ha2, ← ha1]
        exact ⟨_, rfl, by simpa using hown, hpip, hX⟩
      · rw [htk m'.toNat (by omega)] at ha1 ha2
        have hX2 := hX.trans X2
        have hown2 := owns_keep hown X2 (fun k hk => by rcases hk with rfl | rfl <;> assumption)
        have hB2 := hX2.size
        clear hX X2 hown htk hpip
        obtain ⟨fv, c1, q, cap, rfl, hcp, bs⟩ := hp2.c1
        obtain ⟨b, off, rfl, g1, g2, g3⟩ := bs hf
        have hfl : 0 < f'.length := Nat.pos_of_ne_zero fun e => hf (List.length_eq_zero_iff.1 e)
        have c2 := hp2.c2
        have ff1 := hp2.f1
        have ff2 := hp2.f2
        generalize htt : total ps' = tt at *
        by_cases hmf : m' ≤ (f'.length : Int)
        · obtain ⟨k, rfl⟩ : ∃ k : Nat, m' = (k : Int) := ⟨m'.toNat, by omega⟩
          have hk : k ≤ f'.length := by omega
          have hkc : k ≤ cap := by omega
          have hlf : (f'.take k).length = k := by simp; omega
          have hnews : ∀ j u, ((f'.take k).map (Value.int .u8))[j]? = some u → w2.cell? ((⟨b, off, none⟩ : Addr).add j) = some u := by
            intro j u hj
            simp only [List.getElem?_map, Option.map_eq_some_iff] at hj
            obtain ⟨x, hx, rfl⟩ := hj
            rw [Go.WideShapes.add_plain]
            refine g3 j x ?_
            rw [← hx, List.getElem?_take_of_lt]
            have := (List.getElem?_eq_some_iff.1 hx).1
            omega
          go_wp2_with (first
            | (at_builtin; refine wpList_append_own _ rfl (.tmp 21) (.tmp 27) 30 rfl w1.heap.size 5 i0 (.int .u8 0) 1 1 Try.underlying30 hi hz0 hz1 hz2 rfl (by decide) _ _ _ rfl hown2 ⟨b, off, none⟩ k cap ((f'.take k).map (.int .u8)) rfl (by simp <;> omega) hnews (ints_oneCell .u8 _) (by unfold maxLen; omega) (by omega) hB2 ?_))
          intro v' w3 hown3 hgrow _
          have hrow := fun k hk => (hown2.lt k hk).1
          clear hown2 hnews
          have hp3 := hp2.keep (Ext.grown (Ext.refl (fun k => w1.heap.size ≤ k) w2) hgrow (fun k hk => .inl (hrow k hk))) (fun k _ hk => ⟨.inr hk, by omega, by omega⟩) (fun _ _ a => a) hp2.avp hp2.avc
          have hX3 := hX2.grown hgrow (fun k hk => .inr (hrow k hk))
          have c1 := (ext_cell1 hgrow hrow hpl).trans c1
          clear hp2 hX2 hB2 hgrow hrow g3 bs c2 ff1 ff2
          have c2 := hp3.c2
          have ff1 := hp3.f1
          have ff2 := hp3.f2
          rw [htt] at c2
          go_wp2_with fail
          go_roundw
          case rel =>
            rw [show ((k : Int)).toNat = k by omega, tk_part _ hk] at ha1 ha2
            refine ⟨0, acc ++ f'.take k, f'.drop k, ps', by go_num, by omega, ?_, ?_, ?_, ?_, ?_, ?_⟩
            · simp; omega
            · rw [List.length_append, hlf]
              exact owns_keep (S := fun k => k = p) (by simpa using hown3) (((Ext.refl (fun k => k = p) w3).setCell (p := ⟨p, 1, none⟩) (.inl rfl) _).setCell (p := ⟨p, 2, none⟩) (.inl rfl) _) (fun k e => by omega)
            · exact hp3.taken k hk c1 _ (fun h => by rw [if_neg (by omega)]) _ (by simp; omega)
            · exact (hX3.setCell (p := ⟨p, 1, none⟩) (.inl (.inl rfl)) _).setCell (p := ⟨p, 2, none⟩) (.inl (.inl rfl)) _
            · simpa [tk_zero] using ha1
            · simpa [tk_zero] using ha2
          case measure => simp [intOf]; omega
        · have hk : f'.length ≤ f'.length := Nat.le_refl _
          have hkm : (f'.length : Int) < m' := by omega
          have hlf : (f'.take f'.length).length = f'.length := by simp
          have hnews : ∀ j u, ((f'.take f'.length).map (Value.int .u8))[j]? = some u → w2.cell? ((⟨b, off, none⟩ : Addr).add j) = some u := by
            intro j u hj
            simp only [List.getElem?_map, Option.map_eq_some_iff] at hj
            obtain ⟨x, hx, rfl⟩ := hj
            rw [Go.WideShapes.add_plain]
            refine g3 j x ?_
            rw [← hx, List.getElem?_take_of_lt]
            have := (List.getElem?_eq_some_iff.1 hx).1
            omega
          go_wp2_with (first
            | (at_builtin; refine wpList_append_own _ rfl (.tmp 21) (.tmp 27) 30 rfl w1.heap.size 5 i0 (.int .u8 0) 1 1 Try.underlying30 hi hz0 hz1 hz2 rfl (by decide) _ _ _ rfl hown2 ⟨b, off, none⟩ f'.length cap ((f'.take f'.length).map (.int .u8)) rfl (by simp <;> omega) hnews (ints_oneCell .u8 _) (by unfold maxLen; omega) (by omega) hB2 ?_))
          intro v' w3 hown3 hgrow _
          have hrow := fun k hk => (hown2.lt k hk).1
          clear hown2 hnews
          have hp3 := hp2.keep (Ext.grown (Ext.refl (fun k => w1.heap.size ≤ k) w2) hgrow (fun k hk => .inl (hrow k hk))) (fun k _ hk => ⟨.inr hk, by omega, by omega⟩) (fun _ _ a => a) hp2.avp hp2.avc
          have hX3 := hX2.grown hgrow (fun k hk => .inr (hrow k hk))
          have c1 := (ext_cell1 hgrow hrow hpl).trans c1
          clear hp2 hX2 hB2 hgrow hrow g3 bs c2 ff1 ff2
          have c2 := hp3.c2
          have ff1 := hp3.f1
          have ff2 := hp3.f2
          rw [htt] at c2
          go_wp2_with fail
          go_roundw
          case rel =>
            rw [tk_all _ (show f'.length ≤ m'.toNat by omega), show m'.toNat - f'.length = (m' - (f'.length : Int)).toNat by omega] at ha1 ha2
            have hdr : f'.drop f'.length = [] := by simp
            have htk : f'.take f'.length = f' := by simp
            refine ⟨m' - (f'.length : Int), acc ++ f'.take f'.length, f'.drop f'.length, ps', by go_num, by omega, ?_, ?_, ?_, ?_, ?_, ?_⟩
            · simp; omega
            · rw [List.length_append, hlf]
              exact owns_keep (S := fun k => k = p) (by simpa using hown3) (((Ext.refl (fun k => k = p) w3).setCell (p := ⟨p, 1, none⟩) (.inl rfl) _).setCell (p := ⟨p, 2, none⟩) (.inl rfl) _) (fun k e => by omega)
            · have ht := fun q x hx => hp3.taken f'.length hk c1 q (fun h => absurd h (Nat.lt_irrefl _)) x hx
              simp only [Nat.sub_self] at ht
              exact ht _ _ (by simp; omega)
            · exact (hX3.setCell (p := ⟨p, 1, none⟩) (.inl (.inl rfl)) _).setCell (p := ⟨p, 2, none⟩) (.inl (.inl rfl)) _
            · rw [hdr, htk, List.append_assoc]; exact ha1
            · rw [hdr]; exact ha2
          case measure => simp [intOf]; omega
    · go_wp2
      go_ret
      have e1 : m'.toNat = 0 := by omega
      rw [e1, tk_zero] at ha1 ha2
      rw [← ha2, ← ha1]
      exact ⟨_, rfl, by simpa using hown, hpip, hX⟩
end Go.Proofs.Ytihdjneoemlddaa
