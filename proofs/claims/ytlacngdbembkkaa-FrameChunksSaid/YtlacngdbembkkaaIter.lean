/- The iterator of 'each': it keeps what is left of the stream in a captured variable. -/
import Derived.Test.YtlacngdbembkkaaRange
import Derived.Sort.QuietIn
import Derived.Test.YtlacngdbembkkaaCut
import Derived.Test.YtlacngdbembkkaaBytes
namespace Go.Proofs.Ytlacngdbembkkaa
open Go.RowKit Go.Shelf
attribute [local go_sem] Oper.semAt_some

/-- Where the loop stands: the frames that came, what is left, what the iterator's variable holds, what the caller's holds. -/
structure Sta where
  pre : List (List Int)
  rest : List Int
  vb : Value
  vl : Value
/-- What is handed to a round. -/
structure Cutv where
  fp : Option Addr
  fn : Nat
  fc : Nat
  lp : Option Addr
  ln : Nat
  lc : Nat
  bad : Bool
def Cutv.fr (x : Cutv) : Value := .slice x.fp x.fn x.fc
def Cutv.lf (x : Cutv) : Value := .slice x.lp x.ln x.lc
def Cutv.enc (x : Cutv) : Array Value := #[.agg #[x.fr, x.lf, .bool x.bad]]

/-- The frames in memory. -/
def Frs (W : World) (B : Nat) (fs : List (List Int)) (us : List Value) : Prop := us.length = fs.length ∧ ∀ (j : Nat) (x : List Int), fs[j]? = some x → ∃ u, us[j]? = some u ∧ Own5 W (B + 4) u x

structure St (w0 : World) (B : Nat) (l0 : List Int) (bad : Bool) (s : Sta) (W : World) : Prop where
  low : Below B w0 W
  hb : Boxed W (B + 3) 27 s.vb
  hf : ∃ vf us, Boxed W B 22 vf ∧ W.ownsRow (B + 4) 27 1 vf s.pre.length us ∧ Frs W B s.pre us
  hl : Boxed W (B + 1) 27 s.vl
  hd : Boxed W (B + 2) 4 (.bool bad)
  size : B + 4 ≤ W.heap.size
  base : w0.heap.size = B
  reads : Bs w0 (fun k => B ≤ k) s.vl s.rest
  sum : splitL l0 = (s.pre ++ (splitL s.rest).1, (splitL s.rest).2.1, (splitL s.rest).2.2)
  byt : Byt s.rest
  len : s.rest.length ≤ 1000000

/-- A round's step. -/
inductive Stp (w0 : World) (B : Nat) (s : Sta) : Cutv → Sta → Prop
  | cut (x : Cutv) (f rest : List Int) (hx : x.bad = false) (hr : s.rest = f ++ rest) (hs : splitL s.rest = (f :: (splitL rest).1, (splitL rest).2.1, (splitL rest).2.2))
      (hf : Bs w0 (fun k => B ≤ k) x.fr f) (hl : Bs w0 (fun k => B ≤ k) x.lf rest) : Stp w0 B s x ⟨s.pre ++ [f], rest, s.vb, x.lf⟩
  | bad (x : Cutv) (hx : x.bad = true) (hs : splitL s.rest = ([], s.rest, true)) : Stp w0 B s x s

theorem or_cat (x y : Int) (hx : 0 ≤ x) (hx2 : x ≤ 255) (hy : 0 ≤ y) (hy2 : y ≤ 255) : bits .or .i64 (x * 256) y = 256 * x + y := by
  obtain ⟨a, rfl⟩ := Int.eq_ofNat_of_zero_le hx
  obtain ⟨b, rfl⟩ := Int.eq_ofNat_of_zero_le hy
  have h1 : (BitVec.ofInt 64 ((a : Int) * 256)).toNat = a * 256 := by
    rw [show ((a : Int) * 256) = ((a * 256 : Nat) : Int) by omega, BitVec.ofInt_natCast, BitVec.toNat_ofNat]; exact Nat.mod_eq_of_lt (by omega)
  have h2 : (BitVec.ofInt 64 (b : Int)).toNat = b := by
    rw [BitVec.ofInt_natCast, BitVec.toNat_ofNat]; exact Nat.mod_eq_of_lt (by omega)
  show IntKind.i64.wrap ((BitVec.ofInt 64 ((a : Int) * 256) ||| BitVec.ofInt 64 (b : Int)).toNat : Int) = _
  rw [BitVec.toNat_or, h1, h2]
  have h3 := Nat.two_pow_add_eq_or_of_lt (i := 8) (b := b) (by omega) a
  rw [show a * 256 = 2 ^ 8 * a by omega, ← h3, IntKind.wrap_i64]
  omega

theorem St.drew {w0 : World} {B : Nat} {l0 : List Int} {bad : Bool} {s : Sta} {W : World} (h : St w0 B l0 bad s W) : St w0 B l0 bad s W.drew :=
  ⟨⟨h.low.os, h.low.tape, h.low.output, h.low.size, h.low.block⟩, h.hb, h.hf, h.hl, h.hd, h.size, h.base, h.reads, h.sum, h.byt, h.len⟩

theorem St.drewN {w0 : World} {B : Nat} {l0 : List Int} {bad : Bool} {s : Sta} {W : World} (h : St w0 B l0 bad s W) (m : Nat) : St w0 B l0 bad s (W.drewN m) :=
  ⟨⟨h.low.os, h.low.tape, h.low.output, h.low.size, h.low.block⟩, h.hb, h.hf, h.hl, h.hd, h.size, h.base, h.reads, h.sum, h.byt, h.len⟩
theorem KeepsOthers.drewN' (W : World) (m : Nat) : KeepsOthers W (W.drewN m) := ⟨Nat.le_refl _, fun _ _ h _ => h⟩

theorem Own5.mono {W : World} {B B' : Nat} {v : Value} {l : List Int} (h : Own5 W B v l) (hb : B' ≤ B) : Own5 W B' v l := by
  refine ⟨h.1, ?_⟩
  rcases h.2 with hn | ⟨g, cap, cur, hv, hg, rest⟩
  · exact .inl hn
  · exact .inr ⟨g, cap, cur, hv, by omega, rest⟩
theorem Frs.setCell {W : World} {B : Nat} {fs : List (List Int)} {us : List Value} (h : Frs W B fs us) {p : Addr} (hp : p.block < B + 4) (v : Value) : Frs (W.setCell p v) B fs us :=
  ⟨h.1, fun j x hj => by obtain ⟨u, hu, ho⟩ := h.2 j x hj; exact ⟨u, hu, ownsRow_setCell_below ho hp v⟩⟩
theorem St.setVb {w0 : World} {B : Nat} {l0 : List Int} {bad : Bool} {s : Sta} {W : World} (h : St w0 B l0 bad s W) (v : Value) : St w0 B l0 bad ⟨s.pre, s.rest, v, s.vl⟩ (W.setCell ⟨B + 3, 0, none⟩ v) := by
  have hk : ∀ k t u, Boxed W k t u → k ≠ B + 3 → Boxed (W.setCell ⟨B + 3, 0, none⟩ v) k t u := fun k t u hb hne => hb.kept (grownBy_setCell' W (B + 3) v) (by simpa using hne)
  obtain ⟨vf, us, h1, h2, h3⟩ := h.hf
  exact ⟨h.low.setCell (p := ⟨B + 3, 0, none⟩) (by simp) v, h.hb.set v, ⟨vf, us, hk _ _ _ h1 (by omega), ownsRow_setCell_below h2 (by simp) v, h3.setCell (by simp) v⟩, hk _ _ _ h.hl (by omega), hk _ _ _ h.hd (by omega), by simpa [World.setCell] using h.size, h.base, h.reads, h.sum, h.byt, h.len⟩

/-- The front, and what is left behind it. -/
theorem Bs.cut {w : World} {Av : Nat → Prop} {b off cap : Nat} {l : List Int} (h : Bs w Av (.slice (some ⟨b, off, none⟩) l.length cap) l) (k : Nat) (hk : k ≤ l.length) (h0 : 0 < k) :
    Bs w Av (.slice (some ⟨b, off, none⟩) k k) (l.take k) ∧ (if l.length = k then Bs w Av (.slice (some ⟨b, off, none⟩) 0 0) (l.drop k) else Bs w Av (.slice (some ⟨b, off + k, none⟩) (l.length - k) (cap - k)) (l.drop k)) := by
  obtain ⟨p, cap', e, hcp, hb⟩ := h
  cases e
  obtain ⟨b', off', e, h1, h2, h3⟩ := hb (by intro e; simp [e] at hk; omega)
  cases e
  refine ⟨⟨some ⟨b, off, none⟩, k, by rw [List.length_take, Nat.min_eq_left hk], by rw [List.length_take]; omega, fun _ => ⟨b, off, rfl, h1, h2, fun j x hj => ?_⟩⟩, ?_⟩
  · rw [List.getElem?_take] at hj
    split at hj
    · exact h3 j x hj
    · cases hj
  · split
    · rename_i hlk
      refine ⟨some ⟨b, off, none⟩, 0, by rw [List.length_drop, hlk, Nat.sub_self], by rw [List.length_drop]; omega, fun hne => ?_⟩
      exact absurd (List.length_eq_zero_iff.1 (by simp; omega)) hne
    · refine ⟨some ⟨b, off + k, none⟩, cap - k, by rw [List.length_drop], by rw [List.length_drop]; omega, fun _ => ⟨b, off + k, rfl, h1, h2, fun j x hj => ?_⟩⟩
      rw [List.getElem?_drop] at hj
      have := h3 (k + j) x hj
      rwa [show off + (k + j) = off + k + j by omega] at this

def lenAt (B : Nat) (w : World) : Nat := match w.cell? ⟨B + 3, 0, none⟩ with | some (.slice _ n _) => n | _ => 0

theorem lenAt_of {B : Nat} {W : World} {p : Option Addr} {n c : Nat} (h : Boxed W (B + 3) 27 (.slice p n c)) : lenAt B W = n := by simp [lenAt, h.cell]

set_option maxHeartbeats 3200000 in
theorem iter_ok {w0 : World} {B : Nat} {l0 : List Int} (n : Nat) (hn : 1 ≤ n) (l : Nat) (J' Jx' : Sta → World → Prop) (W : World)
    (imp : ∀ s W, J' s W → St w0 B l0 false s W) (step : ∀ s s2 W W2, J' s W → KeepsOthers W W2 → St w0 B l0 false s2 W2 → J' s2 W2)
    (hY : ∀ s x s' W1, Stp w0 B s x s' → J' s W1 → YieldAt Fence.wide (n - 1) Try.prog l x.enc W1 fun e W' => (e = .returned (.bool true) ∧ x.bad = false ∧ J' s' W') ∨ (e = .returned (.bool false) ∧ Jx' s' W'))
    (v0 : Value) (h0 : J' ⟨[], l0, v0, v0⟩ W) :
    CallsIn Fence.wide n Try.prog 26 #[.func (.yield l) #[] #[], .pointer (some ⟨B + 3, 0, none⟩)] W fun e W' => (∃ v, e = .returned v) ∧ ((∃ s : Sta, splitL s.rest = ([], s.rest, false) ∧ J' s W') ∨ (∃ s, Jx' s W')) := by
  refine callsIn_of_wp Try.func26 rfl trivial ?_ rfl
  simp only [Try.ntmps26, List.size_toArray, List.length_cons, List.length_nil, Nat.reduceAdd, Nat.reduceSub, Array.replicate_succ, Array.replicate_zero, List.push_toArray, List.append_toArray, List.nil_append, List.cons_append]
  gi_wp2
  gi_loopw [] (fun wr => ∃ s : Sta, s.vb = s.vl ∧ J' s wr) (fun wr => lenAt B wr)
  case atStart => exact ⟨_, rfl, h0⟩
  case round =>
    obtain ⟨⟨pre, rest, vb, vl⟩, hvv, hJ⟩ := hrel
    obtain rfl : vb = vl := hvv
    have hst := imp _ _ hJ
    have hb := hst.hb
    have hbc := hb.cell
    have hbf := hb.frozen
    have hlen := hst.len
    have hbyt := hst.byt
    obtain ⟨p, cap, ev, hcap, hbs⟩ := hst.reads
    simp only at ev hcap hbs hbc hlen hbyt
    subst ev
    by_cases h4 : rest.length < 4
    · gi_wp2
      go_end0
      exact ⟨⟨_, rfl⟩, .inl ⟨_, split_short h4, hJ⟩⟩
    · obtain ⟨b, off, rfl, g1, g2, g3⟩ := hbs (by intro e; simp [e] at h4)
      obtain ⟨x2, hx2⟩ : ∃ x, rest[2]? = some x := ⟨_, List.getElem?_eq_getElem (by omega)⟩
      obtain ⟨x3, hx3⟩ : ∃ x, rest[3]? = some x := ⟨_, List.getElem?_eq_getElem (by omega)⟩
      have hbase := hst.base
      have hlow := fun k (h : k < B) => hst.low.block k h
      have c2 : wr.cell? ⟨b, off + 2, none⟩ = some (.int .u8 x2) := (World.cell?_of_block (hlow b (by omega))).trans (g3 2 x2 hx2)
      have c3 : wr.cell? ⟨b, off + 3, none⟩ = some (.int .u8 x3) := (World.cell?_of_block (hlow b (by omega))).trans (g3 3 x3 hx3)
      obtain ⟨b20, b21⟩ := hbyt x2 (List.mem_of_getElem? hx2)
      obtain ⟨b30, b31⟩ := hbyt x3 (List.mem_of_getElem? hx3)
      have hor := or_cat x2 x3 b20 b21 b30 b31
      have h4' : (4 : Int) ≤ (rest.length : Int) := by omega
      have htold : ((told rest : Nat) : Int) = 256 * x2 + x3 := by
        simp only [told, List.getD, hx2, hx3, Option.getD_some]; omega
      have hlz : (3 : Int) < (rest.length : Int) := by omega
      have hlz2 : (2 : Int) < (rest.length : Int) := by omega
      have hJd := fun m => step _ _ _ _ hJ (KeepsOthers.drewN' wr m) (hst.drewN m)
      have hJd2 := fun m m2 => step _ _ _ _ (hJd m) (KeepsOthers.drewN' (wr.drewN m) m2) ((hst.drewN m).drewN m2)
      have hbb : ∀ m, Boxed (wr.drewN m) (B + 3) 27 (.slice (some ⟨b, off, none⟩) rest.length cap) := fun m => (hst.drewN m).hb
      generalize htk : told rest = k at htold
      rw [← htold] at hor
      clear hbs g3 hlow hx2 hx3 hbyt htold
      by_cases h8 : k < 8
      · have h8' : (k : Int) < 8 := by omega
        gi_wp2
        gi_quiet (fail)
        obtain ⟨fn, tmps, assign, body, hy, hR⟩ := hY _ ⟨none, 0, 0, some ⟨b, off, none⟩, rest.length, cap, true⟩ _ _ (.bad _ rfl (split_bad h4 (show told rest < 8 by omega))) (hJd nq)
        simp only [Cutv.enc, Cutv.fr, Cutv.lf] at hy
        gi_wp2
        refine hR.mono ?_
        rintro e W3 (⟨rfl, hf, _⟩ | ⟨rfl, hJx⟩)
        · cases hf
        · gi_wp2
          refine bodyPost_ret (results_none rfl _ _ _) rfl ?_
          exact ⟨⟨_, rfl⟩, .inr ⟨_, hJx⟩⟩
      · by_cases hkl : rest.length < k
        · have h8' : (8 : Int) ≤ (k : Int) := by omega
          have hkl' : decide ((rest.length : Int) < (k : Int)) = true := by simp; omega
          gi_wp2
          gi_quiet (fail)
          have hbn := hbb nq
          have hbc2 := hbn.cell
          gi_wp2
          refine wpIn_region_quiet_lit rfl (by kernel_rfl) (by kernel_rfl) ?_
          repeat (gi_big_quiet_step (fail))
          refine BigFrame.wpQuietIn_skip (fun _ _ _ _ => trivial) rfl ?_
          simp only [Act.put, List.setIfInBounds_toArray, List.set_cons_succ, List.set_cons_zero]
          repeat (gi_big_quiet_step (fail))
          refine wpQuietIn_nil ?_
          rintro _ ⟨nq2, rfl⟩
          gi_wp2
          refine bodyPost_ret (results_none rfl _ _ _) rfl ?_
          exact ⟨⟨_, rfl⟩, .inl ⟨⟨pre, rest, _, _⟩, split_wait h4 (show ¬ told rest < 8 by omega) (show rest.length < told rest by omega), hJd2 nq nq2⟩⟩
        · have h8' : (8 : Int) ≤ (k : Int) := by omega
          have hkl' : decide ((rest.length : Int) < (k : Int)) = false := by simp; omega
          have hkl2 : (k : Int) ≤ (rest.length : Int) := by omega
          have hkc : (k : Int) ≤ (cap : Int) := by omega
          have hk0 : (k : Int) ≠ 0 := by omega
          have h8pos : 0 < k := by omega
          have hkl3 : k ≤ rest.length := by omega
          gi_wp2
          gi_quiet (fail)
          have hbn := hbb nq
          have hbc2 := hbn.cell
          gi_wp2
          have hrd := hst.reads
          have hbyt := hst.byt
          simp only at hrd hbyt
          have hsp : splitL rest = (rest.take k :: (splitL (rest.drop k)).1, (splitL (rest.drop k)).2.1, (splitL (rest.drop k)).2.2) := by
            have := split_cut (b := rest) h4 (by omega) (by omega)
            rwa [htk] at this
          have hstep2 := fun s W3 v (hj : J' s W3) => step _ _ _ _ hj (KeepsOthers.setCell W3 ⟨B + 3, 0, none⟩ v) ((imp _ _ hj).setVb v)
          by_cases hcz : cap = k
          · subst hcz
            have hrl : rest.length = cap := by omega
            obtain ⟨hfr, hlf⟩ := hrd.cut cap hkl3 h8pos
            rw [if_pos hrl] at hlf
            have hcutx : Stp w0 B ⟨pre, rest, .slice (some ⟨b, off, none⟩) rest.length cap, .slice (some ⟨b, off, none⟩) rest.length cap⟩ ⟨some ⟨b, off, none⟩, cap, cap, some ⟨b, off, none⟩, 0, 0, false⟩ _ :=
              .cut _ (rest.take cap) (rest.drop cap) rfl (List.take_append_drop _ _).symm hsp hfr hlf
            refine wpIn_region_quiet_upto (C := fun w' => ∃ m, w' = (wr.drewN nq).drewN m) 14 rfl (by kernel_rfl) (by decide) (by kernel_rfl) ⟨1, rfl⟩ ?_
            simp only [List.take_succ_cons, List.take_zero, List.drop_succ_cons, List.drop_zero]
            repeat (gi_big_quiet_step (fail))
            refine wpQuietIn_nil ?_
            rintro _ ⟨nq2, rfl⟩
            have hJq := hJd2 nq nq2
            generalize (wr.drewN nq).drewN nq2 = wq at hJq ⊢
            obtain ⟨fn, tmps, assign, body, hy, hR⟩ := hY _ _ _ _ hcutx hJq
            simp only [Cutv.enc, Cutv.fr, Cutv.lf] at hy
            gi_wp2
            refine hR.mono ?_
            rintro e W3 (⟨rfl, _, hj3⟩ | ⟨rfl, hJx⟩)
            · have hs3 := imp _ _ hj3
              have hb3 := hs3.hb
              have hbc3 := hb3.cell
              have hbf3 := hb3.frozen
              simp only at hbc3
              gi_wp2
              refine ⟨⟨_, rfl, hstep2 _ W3 (.slice (some ⟨b, off, none⟩) 0 0) hj3⟩, ?_⟩
              rw [lenAt_of (hs3.setVb (.slice (some ⟨b, off, none⟩) 0 0)).hb, lenAt_of hst.hb]
              omega
            · gi_wp2
              refine bodyPost_ret (results_none rfl _ _ _) rfl ?_
              exact ⟨⟨_, rfl⟩, .inr ⟨_, hJx⟩⟩
          · have hck : (k : Int) < (cap : Int) := by omega
            obtain ⟨hfr, hlf⟩ := hrd.cut k hkl3 h8pos
            refine wpIn_region_quiet_upto (C := fun w' => ∃ m, w' = (wr.drewN nq).drewN m) 14 rfl (by kernel_rfl) (by decide) (by kernel_rfl) ⟨1, rfl⟩ ?_
            simp only [List.take_succ_cons, List.take_zero, List.drop_succ_cons, List.drop_zero]
            repeat (gi_big_quiet_step (fail))
            refine wpQuietIn_nil ?_
            rintro _ ⟨nq2, rfl⟩
            have hJq := hJd2 nq nq2
            generalize (wr.drewN nq).drewN nq2 = wq at hJq ⊢
            have hlf' : Bs w0 (fun k => B ≤ k) (.slice (some ⟨b, off + k, none⟩) (rest.length - k) (cap - k)) (rest.drop k) := by
              by_cases hrk : rest.length = k
              · refine ⟨_, cap - k, by rw [List.length_drop], by rw [List.length_drop]; omega, fun hne => absurd (List.length_eq_zero_iff.1 (by rw [List.length_drop]; omega)) hne⟩
              · rwa [if_neg hrk] at hlf
            have hcutx : Stp w0 B ⟨pre, rest, .slice (some ⟨b, off, none⟩) rest.length cap, .slice (some ⟨b, off, none⟩) rest.length cap⟩ ⟨some ⟨b, off, none⟩, k, k, some ⟨b, off + k, none⟩, rest.length - k, cap - k, false⟩ _ :=
              .cut _ (rest.take k) (rest.drop k) rfl (List.take_append_drop _ _).symm hsp hfr hlf'
            obtain ⟨fn, tmps, assign, body, hy, hR⟩ := hY _ _ _ _ hcutx hJq
            simp only [Cutv.enc, Cutv.fr, Cutv.lf] at hy
            gi_wp2
            refine hR.mono ?_
            rintro e W3 (⟨rfl, _, hj3⟩ | ⟨rfl, hJx⟩)
            · have hs3 := imp _ _ hj3
              have hb3 := hs3.hb
              have hbc3 := hb3.cell
              have hbf3 := hb3.frozen
              simp only at hbc3
              gi_wp2
              refine ⟨⟨_, rfl, hstep2 _ W3 (.slice (some ⟨b, off + k, none⟩) (rest.length - k) (cap - k)) hj3⟩, ?_⟩
              rw [lenAt_of (hs3.setVb (.slice (some ⟨b, off + k, none⟩) (rest.length - k) (cap - k))).hb, lenAt_of hst.hb]
              omega
            · gi_wp2
              refine bodyPost_ret (results_none rfl _ _ _) rfl ?_
              exact ⟨⟨_, rfl⟩, .inr ⟨_, hJx⟩⟩
end Go.Proofs.Ytlacngdbembkkaa
