/- 'PipeDoes' gives true. -/
import Derived.Test.YtihdjneoemlddaaRefPut
import Derived.Deep.CutBlock
import Derived.Deep.QuietTactic
namespace Go.Proofs.Ytihdjneoemlddaa
open Go.RowKit Go.Conc

/-- How both pipes stand. -/
structure Both (B : Nat) (w0 : World) (p c b6 room k : Nat) (cl : Bool) (lv : Value) (t : Nat) (L : List (List Int)) (first : List Int) (pieces : List (List Int)) (w : World) : Prop where
  pip : Pip w (fun k => k = p ∨ k = c ∨ k = b6) p c room pieces first cl
  ref : RefAt w b6 room lv t cl
  bss : Bss w (fun k => k = p ∨ k = c ∨ k = b6) lv L
  like : Like L t first pieces
  full : ∀ l ∈ L, l ≠ []
  lens : ∀ l ∈ L, l.length ≤ 1000000
  len : L.length ≤ k
  tot : total L ≤ 300 * k
  ext : Ext (fun k => B ≤ k) w0 w
  pb : B ≤ p ∧ B ≤ c ∧ B ≤ b6 ∧ p ≠ b6 ∧ c ≠ b6

theorem Like.total {L : List (List Int)} {t : Nat} {first : List Int} {pieces : List (List Int)} (h : Like L t first pieces) : first.length + Go.Proofs.Ytihdjneoemlddaa.total pieces ≤ Go.Proofs.Ytihdjneoemlddaa.total L ∧ pieces.length ≤ L.length := by
  rcases h.or with ⟨rfl, rfl, rfl⟩ | ⟨x, h1, h2, rfl, rfl⟩
  · simp
  · simp [Go.Proofs.Ytihdjneoemlddaa.total] <;> omega

theorem Both.keep {B : Nat} {w0 : World} {p c b6 room k : Nat} {cl : Bool} {lv : Value} {t : Nat} {L : List (List Int)} {first : List Int} {pieces : List (List Int)} {w w' : World} (h : Both B w0 p c b6 room k cl lv t L first pieces w) (hx : Ext (fun _ => False) w w') : Both B w0 p c b6 room k cl lv t L first pieces w' :=
  ⟨h.pip.keep hx (fun _ _ h => h.elim) (fun _ _ a => a) h.pip.avp h.pip.avc, h.ref.keep hx (fun h => h), h.bss.turn hx (fun _ _ h => h.elim) (fun _ _ a => a), h.like, h.full, h.lens, h.len, h.tot, h.ext.trans (hx.mono (fun _ _ h => h.elim)), h.pb⟩

theorem Both.bd {B : Nat} {w0 : World} {p c b6 room k : Nat} {cl : Bool} {lv : Value} {t : Nat} {L : List (List Int)} {first : List Int} {pieces : List (List Int)} {w : World} (h : Both B w0 p c b6 room k cl lv t L first pieces w) : ∀ k, (k = p ∨ k = c ∨ k = b6) → k < w.heap.size := by
  rintro k (rfl | rfl | rfl)
  · exact h.pip.lts.1
  · exact h.pip.lts.2
  · exact lt_of_cell h.ref.c0

theorem Both.put {B : Nat} {w0 : World} {p c b6 room k : Nat} {cl : Bool} {lv : Value} {t : Nat} {L : List (List Int)} {first : List Int} {pieces : List (List Int)} {w : World} (h : Both B w0 p c b6 room k cl lv t L first pieces w) (bs : List Int) (hbs : bs.length ≤ 300) {w' : World} {lv' : Value}
    (hp : Pip w' (fun k => k = p ∨ k = c ∨ k = b6) p c room (putl cl room pieces bs) first cl) (hr : RefAt w' b6 room lv' t cl) (hB : Bss w' (fun k => k = p ∨ k = c ∨ k = b6) lv' (refL cl room pieces bs L)) (hX : Ext (fun k => B ≤ k) w0 w') :
    Both B w0 p c b6 room (k + 1) cl lv' t (refL cl room pieces bs L) first (putl cl room pieces bs) w' := by
  have h1 := h.len
  have h2 := h.tot
  by_cases hc : cl = false ∧ pieces.length < room ∧ bs ≠ []
  · have e1 : refL cl room pieces bs L = L ++ [bs] := by simp only [refL]; rw [if_pos hc]
    have e2 : putl cl room pieces bs = pieces ++ [bs] := by simp only [putl]; rw [if_pos hc]
    refine ⟨hp, hr, hB, ?_, ?_, ?_, ?_, ?_, hX, h.pb⟩
    · rw [e1, e2]; exact h.like.put bs
    · rw [e1]; intro l hl
      rcases List.mem_append.1 hl with hl | hl
      · exact h.full l hl
      · simp at hl; subst hl; exact hc.2.2
    · rw [e1]; intro l hl
      rcases List.mem_append.1 hl with hl | hl
      · exact h.lens l hl
      · simp at hl; subst hl; omega
    · rw [e1]; simp; omega
    · rw [e1, total_snoc]; omega
  · have e1 : refL cl room pieces bs L = L := by simp only [refL]; rw [if_neg hc]
    have e2 : putl cl room pieces bs = pieces := by simp only [putl]; rw [if_neg hc]
    rw [e1] at hB ⊢
    rw [e2] at hp ⊢
    exact ⟨hp, hr, hB, h.like, h.full, h.lens, by omega, by omega, hX, h.pb⟩

theorem Both.take {B : Nat} {w0 : World} {p c b6 room k : Nat} {cl : Bool} {lv : Value} {t : Nat} {L : List (List Int)} {first : List Int} {pieces : List (List Int)} {w : World} (h : Both B w0 p c b6 room k cl lv t L first pieces w) {w' : World} {lv' : Value} {t' : Nat} {L' : List (List Int)} {first' : List Int} {pieces' : List (List Int)}
    (hp : Pip w' (fun k => k = p ∨ k = c ∨ k = b6) p c room pieces' first' cl) (hr : RefAt w' b6 room lv' t' cl) (hB : Bss w' (fun k => k = p ∨ k = c ∨ k = b6) lv' L') (hk : Like L' t' first' pieces') (hd : ∃ d, L' = L.drop d) (hX : Ext (fun k => B ≤ k) w0 w') :
    Both B w0 p c b6 room (k + 1) cl lv' t' L' first' pieces' w' := by
  have h1 := h.len
  have h2 := h.tot
  refine ⟨hp, hr, hB, hk, fun l hl => h.full l (mem_of_drop hd hl), fun l hl => h.lens l (mem_of_drop hd hl), ?_, ?_, hX, h.pb⟩
  · obtain ⟨d, rfl⟩ := hd
    simp; omega
  · obtain ⟨d, rfl⟩ := hd
    have := total_drop_le L d
    omega

theorem wp_region_quiet_at {P : Program} {C : World → Prop} {id : Nat} {Q : Exit → Act → World → Prop} {a : Act} {w : World} {l : List Oper} (hm : P.follows .mixedOrders = true) (hB : Region.lexB .any l.toArray = true) (hC : C w.drew)
    (h : wpQuiet P l.toArray C (fun a' => ∀ w', C w' → Q .normal a' w') l a) : (Code.region id l.toArray true).wp P Q a w := wp_region_quiet (C := C) hm hB hC (by simpa using h)

/-- A world in which both pipes stand so. -/
structure Sit (B : Nat) (w0 : World) (p c b6 room k : Nat) (cl : Bool) (lv : Value) (t : Nat) (L : List (List Int)) (first : List Int) (pieces : List (List Int)) where
  w : World
  h : Both B w0 p c b6 room k cl lv t L first pieces w

section
variable {B : Nat} {w0 : World} {p c b6 room k : Nat} {cl : Bool} {lv : Value} {t : Nat} {L : List (List Int)} {first : List Int} {pieces : List (List Int)}
theorem sit_len (s : Sit B w0 p c b6 room k cl lv t L first pieces) : Calls Try.prog 14 #[.pointer (some ⟨p, 0, none⟩)] s.w fun e w' => e = .returned (.int .i64 ((first.length + total pieces : Nat) : Int)) ∧ ∃ s' : Sit B w0 p c b6 room k cl lv t L first pieces, w' = s'.w :=
  (len_some s.h.pip).mono fun _ _ ⟨he, hw⟩ => ⟨he, s, hw⟩
theorem sit_pieces (s : Sit B w0 p c b6 room k cl lv t L first pieces) : Calls Try.prog 16 #[.pointer (some ⟨p, 0, none⟩)] s.w fun e w' => e = .returned (.int .i64 (pieces.length : Int)) ∧ ∃ s' : Sit B w0 p c b6 room k cl lv t L first pieces, w' = s'.w :=
  (pieces_some s.h.pip).mono fun _ _ ⟨he, hw⟩ => ⟨he, s, hw⟩
theorem sit_over (s : Sit B w0 p c b6 room k cl lv t L first pieces) : Calls Try.prog 18 #[.pointer (some ⟨p, 0, none⟩)] s.w fun e w' => e = .returned (.bool (cl && decide (first.length + total pieces = 0))) ∧ ∃ s' : Sit B w0 p c b6 room k cl lv t L first pieces, w' = s'.w :=
  (over_some s.h.pip).mono fun _ _ ⟨he, hw⟩ => ⟨he, s, hw⟩
theorem sit_over' (s : Sit B w0 p c b6 room k cl lv t L first pieces) (b : Bool) (hb : (cl && decide (first.length + total pieces = 0)) = b) : Calls Try.prog 18 #[.pointer (some ⟨p, 0, none⟩)] s.w fun e w' => e = .returned (.bool b) ∧ ∃ s' : Sit B w0 p c b6 room k cl lv t L first pieces, w' = s'.w := hb ▸ sit_over s
theorem like_zero (h : Like L t first pieces) (hf : ∀ l ∈ L, l ≠ []) : decide (first.length + total pieces = 0) = decide (L = []) := by
  rcases h.or with ⟨rfl, rfl, rfl⟩ | ⟨x, h1, h2, rfl, rfl⟩
  · cases L with
    | nil => simp [total]
    | cons x L =>
      have := List.length_pos_iff.2 (hf x (by simp))
      rw [show decide (([] : List Int).length + total (x :: L) = 0) = false from decide_eq_false (by simp only [total, List.length_nil]; omega)]
      simp
  · simp; omega
theorem sit_refLen (s : Sit B w0 p c b6 room k cl lv t L first pieces) (hk : k ≤ 100) : Calls Try.prog 15 #[.agg #[.int .i64 room, lv, .int .i64 t, .bool cl]] s.w fun e w' => e = .returned (.int .i64 ((first.length + total pieces : Nat) : Int)) ∧ ∃ s' : Sit B w0 p c b6 room k cl lv t L first pieces, w' = s'.w :=
  (refLen_eq s.h.bss s.h.like (by have := s.h.len; omega) (by have := s.h.tot; omega)).mono fun _ _ ⟨he, hX⟩ => ⟨he, ⟨_, s.h.keep hX⟩, rfl⟩
theorem sit_refPieces (s : Sit B w0 p c b6 room k cl lv t L first pieces) (hk : k ≤ 100) : Calls Try.prog 17 #[.agg #[.int .i64 room, lv, .int .i64 t, .bool cl]] s.w fun e w' => e = .returned (.int .i64 (pieces.length : Int)) ∧ ∃ s' : Sit B w0 p c b6 room k cl lv t L first pieces, w' = s'.w :=
  (refPieces_eq s.h.bss s.h.like (by have := s.h.len; omega)).mono fun _ _ ⟨he, hX⟩ => ⟨he, ⟨_, s.h.keep hX⟩, rfl⟩
end

set_option maxHeartbeats 6400000 in
set_option maxRecDepth 20000 in
theorem does_ok {w : World} {v : Value} {l : List (Int × Int × List Int)} (h : Ops w w.heap.size v l) (hn : l.length ≤ 9223372036854775807) (room : Int) :
    Calls Try.prog 3 #[.int .i64 room, v] w fun e w' => e = .returned (.bool true) ∧ Below w.heap.size w w' := by
  by_cases hfew : (decide (l.length ≤ 100) && l.all fun x => decide (x.2.2.length ≤ 300)) = true
  · have hf : l.length ≤ 100 ∧ ∀ x ∈ l, x.2.2.length ≤ 300 := by simpa using hfew
    by_cases hroom : room < 1 ∨ 1024 < room
    · go_enter Try.func3, Try.ntmps3
      go_wp2_with fail
      go_at_call 5
      refine (few_eq h hn).mono ?_
      rintro e w1 ⟨rfl, n, hn1⟩
      have hX : Ext (fun k => w.heap.size ≤ k) w w1 := by rw [hn1]; exact (Ext.refl _ _).drewN n
      rw [hfew]
      clear hn1 hfew
      go_wp2_with fail
      go_at_call 7
      refine (new_bad room w1 hroom).mono ?_
      rintro e w2 ⟨rfl, rfl⟩
      rcases hroom with hroom | hroom
      all_goals
        go_wp2_with fail
        go_at_call 6
        refine (sure_ok _).mono ?_
        rintro e w8 ⟨rfl, hB8⟩
        go_wp2_with fail
        go_ret
        exact ⟨rfl, (hX.below (Nat.le_refl _) (fun k hk => by omega)).trans (hB8.mono hX.size)⟩
    · obtain ⟨room, rfl⟩ : ∃ r : Nat, room = (r : Int) := ⟨room.toNat, by omega⟩
      have hr1 : 1 ≤ room := by omega
      have hr2 : room ≤ 1024 := by omega
      go_enter Try.func3, Try.ntmps3
      go_wp2_with fail
      go_at_call 5
      refine (few_eq h hn).mono ?_
      rintro e w1 ⟨rfl, n, hn1⟩
      have hX : Ext (fun k => w.heap.size ≤ k) w w1 := by rw [hn1]; exact (Ext.refl _ _).drewN n
      rw [hfew]
      clear hn1 hfew
      go_wp2_with fail
      go_at_call 7
      refine (new2 room w1 hr1 hr2 (m := w.heap.size) hX.size).mono ?_
      rintro e w2 ⟨p, c, rfl, hp, ⟨_, hpb, hcb⟩, hX2⟩
      replace hX := hX.trans (hX2.mono (fun _ _ h => h.elim))
      clear hX2
      obtain ⟨q, cap, rfl, hcap, _⟩ := id h
      go_wp2_with fail
      have hb6 : Both w.heap.size w p c w2.heap.size room 0 false (.slice none 0 0) 0 [] [] [] (w2.alloc (.cells #[.int .i64 room, .slice none 0 0, .int .i64 0, .bool false] 29)) := by
        have hpl := hp.lts
        refine ⟨?_, RefAt.new w2 room (.slice none 0 0) 0 false rfl, Bss.nil _ _, ⟨.inl ⟨rfl, rfl, rfl⟩⟩, by simp, by simp, by simp, by simp [total], hX.alloc _, hpb, hcb, hX.size, by omega, by omega⟩
        exact hp.keep ((Ext.refl (fun _ => False) w2).alloc _) (fun _ _ h => h.elim) (fun k hk a => by rcases a with a | a | a; exact .inl a; exact .inr a; omega) (.inl rfl) (.inr (.inl rfl))
      clear hX hp
      generalize w2.alloc (.cells #[.int .i64 room, .slice none 0 0, .int .i64 0, .bool false] 29) = w3 at *
      generalize w2.heap.size = b6 at *
      go_loopw [7] (fun i wr => ∃ (k : Nat) (cl : Bool) (lv : Value) (t : Nat) (L : List (List Int)) (first : List Int) (pieces : List (List Int)), k ≤ l.length ∧ i = .int .i64 k ∧ Both w.heap.size w p c b6 room k cl lv t L first pieces wr) (fun i _ => (l.length - intOf i).toNat)
      case atStart => exact ⟨0, false, _, 0, [], [], [], by omega, rfl, hb6⟩
      case round =>
        obtain ⟨k, cl, lv, t, L, first, pieces, hk, rfl, hs⟩ := hrel
        obtain ⟨wA, hwA⟩ : ∃ x, x = wr := ⟨_, rfl⟩
        subst hwA
        have hO := h.keep hs.ext (fun _ h => h)
        have hB := hs.ext.size
        have h100 := hf.1
        by_cases hkn : k < l.length
        · obtain ⟨_, _, e, _, hO⟩ := hO
          cases e
          obtain ⟨b, off, rfl, hbB, hbl, g⟩ := hO (by intro h; simp [h] at hkn)
          obtain ⟨⟨kind, num, bs⟩, hx⟩ : ∃ x, l[k]? = some x := ⟨_, List.getElem?_eq_getElem hkn⟩
          obtain ⟨g0, g1, ⟨bv, g2, hbv⟩, r1, r2, r3, r4, r5⟩ := g k _ hx
          have hbs : bs.length ≤ 300 := hf.2 _ (List.mem_of_getElem? hx)
          simp only at g0 g1 g2 hbv r1 r2 r3 r4 r5
          clear g
          have hlt := hs.like.total
          have hpl := hs.pip.lts
          have hbl6 := lt_of_cell hs.ref.c0
          simp only at hbl6
          have hpb' := hs.pb
          have c0 := hs.ref.c0
          have c1 := hs.ref.c1
          have c2 := hs.ref.c2
          have c3 := hs.ref.c3
          go_upto_block 2 with fail
          go_cut [8, 9, 10, 11] from 33 to 118 (fun s8 s9 s10 s11 wx => ∃ (cl' : Bool) (lv' : Value) (t' : Nat) (L' : List (List Int)) (first' : List Int) (pieces' : List (List Int)), Both w.heap.size w p c b6 room (k + 1) cl' lv' t' L' first' pieces' wx)
          case first =>
            by_cases hkind : kind = 0
            · subst hkind
              go_upto_region 14 with fail
              go_cut [8, 9] from 33 to 118 (fun s8 s9 wx => ∃ (b8 : Nat) (lv' : Value), s8 = .pointer (some ⟨b8, 0, none⟩) ∧ s9 = .bool (!cl && decide (pieces.length < room)) ∧ RefAt wx b8 room lv' t cl ∧ Bss wx (fun k => k = p ∨ k = c ∨ k = b6) lv' (refL cl room pieces bs L) ∧ Ext (fun _ => False) wA wx)
              case first =>
                go_region_with (first
                  | (go_at_call 8; refine (refPut_eq (Av := fun k => k = p ∨ k = c ∨ k = b6) (hs.keep (Ext.refl (fun _ => False) wA).drew).bss hs.like (by have := hs.len; omega) (hs.keep (Ext.refl (fun _ => False) wA).drew).bd bv bs _ (hbv.keep (Ext.refl (fun _ => False) wA).drew (fun _ _ h => h.elim)) (by omega)).mono ?_; rintro e w4 ⟨lv', rfl, hB4, X4⟩; obtain ⟨q4, cap4, rfl, hq4, _⟩ := id hB4)
                  | (go_at_call 8; refine (refPut_eq (Av := fun k => (k = p ∨ k = c ∨ k = b6) ∨ k = wA.heap.size) (hs.bss.turn ((Ext.refl (fun _ => False) wA).alloc (.cells #[.int .i64 0, .slice none 0 0, .int .i64 0, .bool false] 29)).drew (fun _ _ h => h.elim) (fun k hk a => by rcases a with a | a; exact a; omega)) hs.like (by have := hs.len; omega) (by rintro k (a | rfl); exact (hs.keep ((Ext.refl (fun _ => False) wA).alloc (.cells #[.int .i64 0, .slice none 0 0, .int .i64 0, .bool false] 29)).drew).bd k a; simp [World.drew]) bv bs _ (hbv.keep ((Ext.refl (fun _ => False) wA).alloc (.cells #[.int .i64 0, .slice none 0 0, .int .i64 0, .bool false] 29)).drew (fun _ _ h => h.elim)) (by omega)).mono ?_; rintro e w4 ⟨lv', rfl, hB4, X4⟩; obtain ⟨q4, cap4, rfl, hq4, _⟩ := id hB4; have hz := ((RefAt.new wA 0 (.slice none 0 0) 0 false rfl).keep ((Ext.refl (fun _ => False) _).drew.trans X4) (fun h => h)); have z0 := hz.c0; have z1 := hz.c1; have z2 := hz.c2; have z3 := hz.c3; have y0 := hz.f0; have y1 := hz.f1; have y2 := hz.f2; have y3 := hz.f3))
                all_goals
                  go_wp2_with fail
                  go_meet
                  first
                    | exact ⟨w4.heap.size, _, rfl, rfl, RefAt.new w4 room _ t cl rfl, hB4.turn ((Ext.refl (fun _ => False) w4).alloc _) (fun _ _ h => h.elim) (fun _ _ a => a), ((Ext.refl _ wA).drew.trans X4).alloc _⟩
                    | exact ⟨wA.heap.size, _, rfl, rfl, (hz.all room _ t cl).1, hB4.turn (hz.all room _ t cl).2 (fun k _ e => .inr e) (fun _ _ a => .inl a), ((((Ext.refl (fun k => wA.heap.size ≤ k) wA).alloc _).drew.trans (X4.mono (fun _ _ h => h.elim))).trans ((hz.all room _ t cl).2.mono (fun k _ e => Nat.le_of_eq e.symm))).mono (fun k hk h => by omega)⟩
              case rest =>
                obtain ⟨b8, lv', rfl, rfl, hr8, hB8, X8⟩ := hcut
                obtain ⟨q4, cap4, rfl, _, _⟩ := id hB8
                have hs8 := hs.keep X8
                have g2' := (X8.cell (p := ⟨b, off + k * 3 + 2, none⟩) hbl (fun h => h)).trans g2
                have hbv8 := hbv.keep X8 (fun _ _ h => h.elim)
                clear c0 c1 c2 c3 g0 g1 g2
                have c0 := hs8.ref.c0
                have c1 := hs8.ref.c1
                have c2 := hs8.ref.c2
                have c3 := hs8.ref.c3
                have f0 := hs8.ref.f0
                have f1 := hs8.ref.f1
                have f2 := hs8.ref.f2
                have f3 := hs8.ref.f3
                have d0 := hr8.c0
                have d1 := hr8.c1
                have d2 := hr8.c2
                have d3 := hr8.c3
                generalize (refL cl room pieces bs L).length = n4 at *
                go_wp2_with fail
                obtain ⟨hRF, Y⟩ := hs8.ref.all room (.slice q4 n4 cap4) t cl
                generalize ((((wc.setCell ⟨b6, 0, none⟩ (.int .i64 room)).setCell ⟨b6, 1, none⟩ (.slice q4 n4 cap4)).setCell ⟨b6, 2, none⟩ (.int .i64 t)).setCell ⟨b6, 3, none⟩ (.bool cl)) = w9 at *
                have hp9 := hs8.pip.keep Y (fun k hk e => by subst e; exact ⟨.inr (.inr rfl), fun e => hpb'.2.2.2.1 e.symm, fun e => hpb'.2.2.2.2 e.symm⟩) (fun _ _ a => a) (.inl rfl) (.inr (.inl rfl))
                have hB9 := hB8.turn Y (fun k _ e => .inr (.inr e)) (fun _ _ a => a)
                have hbv9 := hbv8.keep Y (fun k _ e => by subst e; exact hpb'.2.2.1)
                have hX9 := hs8.ext.trans (Y.mono (fun k _ e => by subst e; exact hpb'.2.2.1))
                go_at_call 9
                refine (put_any hp9 bv bs _ hbv9 (by omega) (by have := hs.tot; omega) (fun k a => Nat.lt_of_lt_of_le (hs8.bd k a) Y.size)).mono ?_
                rintro e w10 ⟨rfl, hp10, X10⟩
                have hr10 := hRF.keep X10 (fun e => by rcases e with e | e; exact hpb'.2.2.2.1 e.symm; exact hpb'.2.2.2.2 e.symm)
                have hB10 := hB9.turn X10 (fun k _ e => by rcases e with e | e; exact .inl e; exact .inr (.inl e)) (fun _ _ a => a)
                have hX10 := hX9.trans (X10.mono (fun k _ e => by rcases e with rfl | rfl; exact hpb'.1; exact hpb'.2.1))
                have hs10 := hs.put bs hbs hp10 hr10 hB10 hX10
                clear c0 c1 c2 c3 f0 f1 f2 f3 d0 d1 d2 d3
                generalize (!cl && decide (pieces.length < room)) = ok at *
                go_wp2_with fail
                go_meet
                exact ⟨_, _, _, _, _, _, hs10⟩
            · have hk0 : (kind == 0) = false := by simp [hkind]
              by_cases hkind1 : kind = 1
              · subst hkind1
                go_upto_region 19 with fail
                go_cut [10, 11] from 33 to 118 (fun s10 s11 wx => ∃ (b8 : Nat) (lv' v : Value) (L' : List (List Int)) (t' : Nat), s10 = .pointer (some ⟨b8, 0, none⟩) ∧ s11 = v ∧ RefAt wx b8 room lv' t' cl ∧ Bss wx (fun k => k = p ∨ k = c ∨ k = b6) lv' L' ∧ (∃ d, L' = L.drop d) ∧ Like L' t' (tk num.toNat first pieces).2.1 (tk num.toNat first pieces).2.2 ∧ Bs wx (fun k => k = p ∨ k = c ∨ k = b6) v (tk num.toNat first pieces).1 ∧ Ext (fun _ => False) wA wx)
                case first =>
                  go_region_with (first
                    | (go_at_call 10; refine (refTake_eq (Av := fun k => k = p ∨ k = c ∨ k = b6) (hs.keep (Ext.refl (fun _ => False) wA).drew).bss.old hs.like (by have := hs.len; omega) (by have := hs.tot; omega) hs.full hs.lens num (by omega)).mono ?_; rintro e w4 ⟨lv', v4, L4, t4, rfl, hB4, hd4, hk4, hv4, X4⟩; obtain ⟨q4, cap4, rfl, hq4, _⟩ := id hB4)
                    | (go_at_call 10; refine (refTake_eq (Av := fun k => (k = p ∨ k = c ∨ k = b6) ∨ k = wA.heap.size) (hs.bss.turn ((Ext.refl (fun _ => False) wA).alloc (.cells #[.int .i64 0, .slice none 0 0, .int .i64 0, .bool false] 29)).drew (fun _ _ h => h.elim) (fun k hk a => by rcases a with a | a; exact a; omega)).old hs.like (by have := hs.len; omega) (by have := hs.tot; omega) hs.full hs.lens num (by omega)).mono ?_; rintro e w4 ⟨lv', v4, L4, t4, rfl, hB4, hd4, hk4, hv4, X4⟩; obtain ⟨q4, cap4, rfl, hq4, _⟩ := id hB4; have hz := ((RefAt.new wA 0 (.slice none 0 0) 0 false rfl).keep ((Ext.refl (fun _ => False) _).drew.trans X4) (fun h => h)); have z0 := hz.c0; have z1 := hz.c1; have z2 := hz.c2; have z3 := hz.c3; have y0 := hz.f0; have y1 := hz.f1; have y2 := hz.f2; have y3 := hz.f3))
                  all_goals
                    go_wp2_with fail
                    go_meet
                    first
                      | exact ⟨w4.heap.size, _, v4, L4, t4, rfl, rfl, RefAt.new w4 room _ t4 cl rfl, hB4.turn ((Ext.refl (fun _ => False) w4).alloc _) (fun _ _ h => h.elim) (fun _ _ a => .inl a), hd4, hk4, hv4.turn ((Ext.refl (fun _ => False) w4).alloc _) (fun _ _ h => h.elim) (fun k _ a => (hs.keep (Ext.refl (fun _ => False) wA).drew).bd k a), ((Ext.refl _ wA).drew.trans X4).alloc _⟩
                      | exact ⟨wA.heap.size, _, v4, L4, t4, rfl, rfl, (hz.all room _ t4 cl).1, hB4.turn (hz.all room _ t4 cl).2 (fun k _ e => .inl (.inr e)) (fun _ _ a => .inl (.inl a)), hd4, hk4, hv4.turn (hz.all room _ t4 cl).2 (fun k _ e => by subst e; simp [World.drew]) (fun k _ a => (hs.keep ((Ext.refl (fun _ => False) wA).alloc (.cells #[.int .i64 0, .slice none 0 0, .int .i64 0, .bool false] 29)).drew).bd k a), ((((Ext.refl (fun k => wA.heap.size ≤ k) wA).alloc _).drew.trans (X4.mono (fun _ _ h => h.elim))).trans ((hz.all room _ t4 cl).2.mono (fun k _ e => Nat.le_of_eq e.symm))).mono (fun k hk h => by omega)⟩
                case rest =>
                  obtain ⟨b8, lv', v8, L8, t8, rfl, rfl, hr8, hB8, hd8, hk8, hv8, X8⟩ := hcut
                  obtain ⟨q4, cap4, rfl, _, _⟩ := id hB8
                  have hs8 := hs.keep X8
                  have g1' := (X8.cell (p := ⟨b, off + k * 3 + 1, none⟩) hbl (fun h => h)).trans g1
                  clear c0 c1 c2 c3 g0 g1 g2
                  have c0 := hs8.ref.c0
                  have c1 := hs8.ref.c1
                  have c2 := hs8.ref.c2
                  have c3 := hs8.ref.c3
                  have f0 := hs8.ref.f0
                  have f1 := hs8.ref.f1
                  have f2 := hs8.ref.f2
                  have f3 := hs8.ref.f3
                  have d0 := hr8.c0
                  have d1 := hr8.c1
                  have d2 := hr8.c2
                  have d3 := hr8.c3
                  generalize L8.length = n4 at *
                  go_wp2_with fail
                  obtain ⟨hRF, Y⟩ := hs8.ref.all room (.slice q4 n4 cap4) t8 cl
                  generalize ((((wc.setCell ⟨b6, 0, none⟩ (.int .i64 room)).setCell ⟨b6, 1, none⟩ (.slice q4 n4 cap4)).setCell ⟨b6, 2, none⟩ (.int .i64 t8)).setCell ⟨b6, 3, none⟩ (.bool cl)) = w9 at *
                  have hp9 := hs8.pip.keep Y (fun k hk e => by subst e; exact ⟨.inr (.inr rfl), fun e => hpb'.2.2.2.1 e.symm, fun e => hpb'.2.2.2.2 e.symm⟩) (fun _ _ a => a) (.inl rfl) (.inr (.inl rfl))
                  have hB9 := hB8.turn Y (fun k _ e => .inr (.inr e)) (fun _ _ a => a)
                  have hv9 := hv8.turn Y (fun k _ e => .inr (.inr e)) (fun _ _ a => a)
                  have hX9 := hs8.ext.trans (Y.mono (fun k _ e => by subst e; exact hpb'.2.2.1))
                  go_at_call 12
                  refine (take_some hp9 num (by omega) (by have := hs.tot; omega) (fun k a => Nat.lt_of_lt_of_le (hs8.bd k a) Y.size)).mono ?_
                  rintro e w10 ⟨v10, rfl, ho10, hp10, X10⟩
                  have hp10' := hp10.keep (Ext.refl (fun _ => False) _) (fun _ _ h => h.elim) (fun _ _ a => .inl a) (.inl rfl) (.inr (.inl rfl)) (Av' := fun k => k = p ∨ k = c ∨ k = b6)
                  have hr10 := hRF.keep X10 (fun e => by rcases e with e | e; exact hpb'.2.2.2.1 e.symm; exact hpb'.2.2.2.2 e.symm)
                  have hB10 := hB9.turn X10 (fun k _ e => by rcases e with e | e; exact .inl e; exact .inr (.inl e)) (fun _ _ a => a)
                  have hv10 := hv9.turn X10 (fun k _ e => by rcases e with e | e; exact .inl e; exact .inr (.inl e)) (fun _ _ a => a)
                  have hX10 := hX9.trans (X10.mono (fun k _ e => by rcases e with rfl | rfl; exact hpb'.1; exact hpb'.2.1))
                  have hs10 := hs.take hp10' hr10 hB10 hk8 hd8 hX10
                  have hbs10 := bs_of_owns ho10
                  have hln := tk_len num.toNat pieces first
                  clear c0 c1 c2 c3 f0 f1 f2 f3 d0 d1 d2 d3 hp10 ho10 hp9
                  generalize (tk num.toNat first pieces).1 = out at *
                  go_wp2_with fail
                  go_at_call 11
                  refine (bytes_eq _ _ _ _ _ _ _ hbs10 hv10 (by have := hs.tot; omega)).mono ?_
                  rintro e w11 ⟨rfl, n11, hn11⟩
                  have X11 : Ext (fun _ => False) w10 w11 := by rw [hn11]; exact (Ext.refl _ _).drewN n11
                  rw [show decide (out = out) = true by simp]
                  clear hn11
                  go_wp2_with fail
                  go_meet
                  exact ⟨_, _, _, _, _, _, hs10.keep X11⟩
              · have hk1 : (kind == 1) = false := by simp [hkind1]
                by_cases hkind2 : kind = 2
                · subst hkind2
                  clear c0 c1 c2 c3 g0 g1 g2
                  go_wp2_with fail
                  go_at_call 13
                  refine (close_some hs.pip).mono ?_
                  rintro e w4 ⟨rfl, hw4⟩
                  have X4 : Ext (fun k => k = p) wA w4 := by rw [hw4]; exact (Ext.refl (fun k => k = p) wA).setCell (p := ⟨p, 3, none⟩) (.inl rfl) _
                  have hp4 := hs.pip.shut
                  rw [← hw4] at hp4
                  have hr4 := hs.ref.keep X4 (fun e => hpb'.2.2.2.1 e.symm)
                  have hB4 := hs.bss.turn X4 (fun k _ e => .inl e) (fun _ _ a => a)
                  have hX4 := hs.ext.trans (X4.mono (fun k _ e => by subst e; exact hpb'.1))
                  clear hw4
                  have c3 := hr4.c3
                  have f3 := hr4.f3
                  have Y : Ext (fun k => k = b6) w4 (w4.setCell ⟨b6, 3, none⟩ (.bool true)) := (Ext.refl (fun k => k = b6) w4).setCell (p := ⟨b6, 3, none⟩) (.inl rfl) _
                  have hp5 := hp4.keep Y (fun k hk e => by subst e; exact ⟨.inr (.inr rfl), fun e => hpb'.2.2.2.1 e.symm, fun e => hpb'.2.2.2.2 e.symm⟩) (fun _ _ a => a) (.inl rfl) (.inr (.inl rfl))
                  have hB5 := hB4.turn Y (fun k _ e => .inr (.inr e)) (fun _ _ a => a)
                  have hX5 := hX4.trans (Y.mono (fun k _ e => by subst e; exact hpb'.2.2.1))
                  have hs5 : Both w.heap.size w p c b6 room (k + 1) true lv t L first pieces _ := ⟨hp5, hr4.setC true, hB5, hs.like, hs.full, hs.lens, by have := hs.len; omega, by have := hs.tot; omega, hX5, hs.pb⟩
                  go_wp2_with fail
                  go_meet
                  exact ⟨_, _, _, _, _, _, hs5⟩
                · have hk2 : (kind == 2) = false := by simp [hkind2]
                  go_wp2_with fail
                  go_meet
                  exact ⟨_, _, _, _, _, _, hs.take hs.pip hs.ref hs.bss hs.like ⟨0, rfl⟩ hs.ext⟩
          case rest =>
            clear hs c0 c1 c2 c3 hlt hbl6 g0 g1 g2 hbv r1 r2 r3 r4 r5 hpl
            obtain ⟨cl', lv', t', L', first', pieces', hs⟩ := hcut
            have hlt := hs.like.total
            have htot := hs.tot
            have hlen := hs.len
            go_upto_region 26 with fail
            go_cut [118] from 33 to 118 (fun s118 wx => s118 = .bool false ∧ Both w.heap.size w p c b6 room (k + 1) cl' lv' t' L' first' pieces' wx)
            case first =>
              replace hs := hs.keep (Ext.refl (fun _ => False) wc).drew
              have c0 := hs.ref.c0
              have c1 := hs.ref.c1
              have c2 := hs.ref.c2
              have c3 := hs.ref.c3
              cases cl' with
              | false =>
                have k0 : ∀ s : Sit w.heap.size w p c b6 room (k + 1) false lv' t' L' first' pieces', s.w.cell? ⟨b6, 0, none⟩ = some (.int .i64 room) := fun s => s.h.ref.c0
                have k1 : ∀ s : Sit w.heap.size w p c b6 room (k + 1) false lv' t' L' first' pieces', s.w.cell? ⟨b6, 1, none⟩ = some lv' := fun s => s.h.ref.c1
                have k2 : ∀ s : Sit w.heap.size w p c b6 room (k + 1) false lv' t' L' first' pieces', s.w.cell? ⟨b6, 2, none⟩ = some (.int .i64 t') := fun s => s.h.ref.c2
                have k3 : ∀ s : Sit w.heap.size w p c b6 room (k + 1) false lv' t' L' first' pieces', s.w.cell? ⟨b6, 3, none⟩ = some (.bool false) := fun s => s.h.ref.c3
                refine wp_region_quiet_at (C := fun w' => ∃ s : Sit w.heap.size w p c b6 room (k + 1) false lv' t' L' first' pieces', w' = s.w) (by kernel_rfl) (by kernel_rfl) ⟨⟨_, hs⟩, rfl⟩ ?_
                have inst : Nonempty (Sit w.heap.size w p c b6 room (k + 1) false lv' t' L' first' pieces') := ⟨⟨_, hs⟩⟩
                clear c0 c1 c2 c3 h
                repeat (quiet_step (first
                  | (go_at_call 14; exact sit_len _)
                  | (go_at_call 15; exact sit_refLen _ (by omega))
                  | (go_at_call 16; exact sit_pieces _)
                  | (go_at_call 17; exact sit_refPieces _ (by omega))
                  | (go_at_call 18; exact sit_over _)))
                refine wpQuiet_nil ?_
                intro _ hw'
                obtain ⟨sx, hw''⟩ := hw'
                subst hw''
                go_wp2_with fail
                go_meet
                exact ⟨rfl, sx.h⟩
              | true =>
                obtain ⟨q5, cap5, rfl, _, _⟩ := id hs.bss
                have hzz := like_zero hs.like hs.full
                by_cases hL : L' = []
                · have hz : (true && decide (first'.length + total pieces' = 0)) = true := by rw [hzz]; simp [hL]
                  clear hzz
                  subst hL
                  have k0 : ∀ s : Sit w.heap.size w p c b6 room (k + 1) true (.slice q5 0 cap5) t' [] first' pieces', s.w.cell? ⟨b6, 0, none⟩ = some (.int .i64 room) := fun s => s.h.ref.c0
                  have k1 : ∀ s : Sit w.heap.size w p c b6 room (k + 1) true (.slice q5 0 cap5) t' [] first' pieces', s.w.cell? ⟨b6, 1, none⟩ = some (.slice q5 0 cap5) := fun s => s.h.ref.c1
                  have k2 : ∀ s : Sit w.heap.size w p c b6 room (k + 1) true (.slice q5 0 cap5) t' [] first' pieces', s.w.cell? ⟨b6, 2, none⟩ = some (.int .i64 t') := fun s => s.h.ref.c2
                  have k3 : ∀ s : Sit w.heap.size w p c b6 room (k + 1) true (.slice q5 0 cap5) t' [] first' pieces', s.w.cell? ⟨b6, 3, none⟩ = some (.bool true) := fun s => s.h.ref.c3
                  refine wp_region_quiet_at (C := fun w' => ∃ s : Sit w.heap.size w p c b6 room (k + 1) true (.slice q5 0 cap5) t' [] first' pieces', w' = s.w) (by kernel_rfl) (by kernel_rfl) ⟨⟨_, hs⟩, rfl⟩ ?_
                  have inst : Nonempty (Sit w.heap.size w p c b6 room (k + 1) true (.slice q5 0 cap5) t' [] first' pieces') := ⟨⟨_, hs⟩⟩
                  clear c0 c1 c2 c3 h
                  repeat (quiet_step (first
                    | (go_at_call 14; exact sit_len _)
                    | (go_at_call 15; exact sit_refLen _ (by omega))
                    | (go_at_call 16; exact sit_pieces _)
                    | (go_at_call 17; exact sit_refPieces _ (by omega))
                    | (go_at_call 18; exact sit_over' _ true hz)))
                  refine wpQuiet_nil ?_
                  intro _ hw'
                  obtain ⟨sx, hw''⟩ := hw'
                  subst hw''
                  go_wp2_with fail
                  go_meet
                  exact ⟨rfl, sx.h⟩
                · have hz : (true && decide (first'.length + total pieces' = 0)) = false := by rw [hzz]; simp [hL]
                  clear hzz
                  have k0 : ∀ s : Sit w.heap.size w p c b6 room (k + 1) true (.slice q5 L'.length cap5) t' L' first' pieces', s.w.cell? ⟨b6, 0, none⟩ = some (.int .i64 room) := fun s => s.h.ref.c0
                  have k1 : ∀ s : Sit w.heap.size w p c b6 room (k + 1) true (.slice q5 L'.length cap5) t' L' first' pieces', s.w.cell? ⟨b6, 1, none⟩ = some (.slice q5 L'.length cap5) := fun s => s.h.ref.c1
                  have k2 : ∀ s : Sit w.heap.size w p c b6 room (k + 1) true (.slice q5 L'.length cap5) t' L' first' pieces', s.w.cell? ⟨b6, 2, none⟩ = some (.int .i64 t') := fun s => s.h.ref.c2
                  have k3 : ∀ s : Sit w.heap.size w p c b6 room (k + 1) true (.slice q5 L'.length cap5) t' L' first' pieces', s.w.cell? ⟨b6, 3, none⟩ = some (.bool true) := fun s => s.h.ref.c3
                  refine wp_region_quiet_at (C := fun w' => ∃ s : Sit w.heap.size w p c b6 room (k + 1) true (.slice q5 L'.length cap5) t' L' first' pieces', w' = s.w) (by kernel_rfl) (by kernel_rfl) ⟨⟨_, hs⟩, rfl⟩ ?_
                  have inst : Nonempty (Sit w.heap.size w p c b6 room (k + 1) true (.slice q5 L'.length cap5) t' L' first' pieces') := ⟨⟨_, hs⟩⟩
                  have hL0 : ((L'.length : Int) == 0) = false := by simp [hL]
                  clear c0 c1 c2 c3 h
                  repeat (quiet_step (first
                    | (go_at_call 14; exact sit_len _)
                    | (go_at_call 15; exact sit_refLen _ (by omega))
                    | (go_at_call 16; exact sit_pieces _)
                    | (go_at_call 17; exact sit_refPieces _ (by omega))
                    | (go_at_call 18; exact sit_over' _ false hz)))
                  refine wpQuiet_nil ?_
                  intro _ hw'
                  obtain ⟨sx, hw''⟩ := hw'
                  subst hw''
                  go_wp2_with fail
                  go_meet
                  exact ⟨rfl, sx.h⟩
            case rest =>
              clear hs
              obtain ⟨rfl, hs⟩ := hcut
              go_wp2_with fail
              go_roundw
              case rel => exact ⟨k + 1, cl', lv', t', L', first', pieces', by omega, by go_num, hs⟩
              case measure => simp [intOf]; omega
        · go_wp2_with fail
          go_at_call 6
          refine (sure_ok _).mono ?_
          rintro e w8 ⟨rfl, hB8⟩
          go_wp2_with fail
          go_ret
          exact ⟨rfl, (hs.ext.below (Nat.le_refl _) (fun k hk => by omega)).trans (hB8.mono hs.ext.size)⟩
  · rw [Bool.not_eq_true] at hfew
    go_enter Try.func3, Try.ntmps3
    go_wp2_with fail
    go_at_call 5
    refine (few_eq h hn).mono ?_
    rintro e w1 ⟨rfl, n, hn1⟩
    have hX : Ext (fun k => w.heap.size ≤ k) w w1 := by rw [hn1]; exact (Ext.refl _ _).drewN n
    rw [hfew]
    clear hn1 hfew
    go_wp2_with fail
    go_at_call 6
    refine (sure_ok _).mono ?_
    rintro e w8 ⟨rfl, hB8⟩
    go_wp2_with fail
    go_ret
    exact ⟨rfl, (hX.below (Nat.le_refl _) (fun k hk => by omega)).trans (hB8.mono hX.size)⟩
end Go.Proofs.Ytihdjneoemlddaa
