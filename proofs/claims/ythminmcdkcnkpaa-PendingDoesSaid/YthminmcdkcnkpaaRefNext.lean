/- The document's Next. -/
import Derived.Test.YthminmcdkcnkpaaRef
namespace Go.Proofs.Ythminmcdkcnkpaa
open Go.RowKit Go.Maps

theorem results_cell_tmp1 {fn : Func} {p u : Tmp} {ty : TypeId} (h : fn.results = #[.cell p ty, .tmp u]) (tmps : Array Value) (P : Program) (w : World) :
    (results fn tmps).run P w =
      ((asAddr (tmps.getD p undef)).run P w).andThen fun a w₁ => ((loadVar ty a).run P w₁).andThen fun x w₂ => .ok (.tuple #[x, tmps.getD u undef]) w₂ := by
  simp only [results, h]
  simp [Sem.run_bind, Result.andThen]
theorem results_cell_tmp2 {fn : Func} {p u v : Tmp} {ty : TypeId} (h : fn.results = #[.cell p ty, .tmp u, .tmp v]) (tmps : Array Value) (P : Program) (w : World) :
    (results fn tmps).run P w =
      ((asAddr (tmps.getD p undef)).run P w).andThen fun a w₁ => ((loadVar ty a).run P w₁).andThen fun x w₂ => .ok (.tuple #[x, tmps.getD u undef, tmps.getD v undef]) w₂ := by
  simp only [results, h]
  simp [Sem.run_bind, Result.andThen]

section
variable {w w' : World} {Av Av' : Nat → Prop} {v : Value} {L : List En}

/-- Two own blocks: the boxed argument and the result. -/
structure Two (w W : World) (room last : Int) (v : Value) (r2 l2 : Int) (v2 : Value) : Prop where
  arg : Bx W w.heap.size room last v
  res : Bx W (w.heap.size + 1) r2 l2 v2
  low : Below w.heap.size w W

theorem two_start (w : World) (room last : Int) (v : Value) : Two w ((w.alloc (.cells #[.int .i64 room, .int .u32 last, v] 39)).alloc (.cells #[.int .i64 0, .int .u32 0, .slice none 0 0] 39)) room last v 0 0 (.slice none 0 0) := by
  have h1 := (MapKept.heap_alloc w (.cells #[.int .i64 room, .int .u32 last, v] 39)).1
  have h2 := (MapKept.heap_alloc (w.alloc (.cells #[.int .i64 room, .int .u32 last, v] 39)) (.cells #[.int .i64 0, .int .u32 0, .slice none 0 0] 39)).1
  have hs : (w.alloc (.cells #[.int .i64 room, .int .u32 last, v] 39)).heap.size = w.heap.size + 1 := by simp
  rw [hs] at h2
  refine ⟨(Bx.of_obj h1).keep ((Ext.refl (fun _ => False) _).alloc _) (fun h => h), Bx.of_obj h2, ((Below.refl _ w).alloc (Nat.le_refl _) _).alloc (by simp) _⟩

theorem Two.below {W W' : World} {room last r2 l2 : Int} {v2 : Value} (h : Two w W room last v r2 l2 v2) (hB : Below W.heap.size W W') : Two w W' room last v r2 l2 v2 := by
  have hE : Ext (fun _ => False) W W' := Ext.of_below hB
  exact ⟨h.arg.keep hE (fun h => h), h.res.keep hE (fun h => h), h.low.trans (hB.mono h.low.size)⟩

theorem ext_set1 {B : Nat} {W : World} (i : Nat) (x : Value) : Ext (fun k => k = B) W (W.setCell ⟨B, i, none⟩ x) := (Ext.refl (fun k => k = B) W).setCell (p := ⟨B, i, none⟩) (.inl rfl) x
theorem ext_set3 {B : Nat} {W : World} (a c d : Value) : Ext (fun k => k = B) W (((W.setCell ⟨B, 0, none⟩ a).setCell ⟨B, 1, none⟩ c).setCell ⟨B, 2, none⟩ d) :=
  ((ext_set1 0 a).trans (ext_set1 1 c)).trans (ext_set1 2 d)

theorem step_eq (x : Int) : (x + 1) % 4294967296 = step x := rfl
attribute [local irreducible] dist nx step

set_option maxRecDepth 20000 in
set_option maxHeartbeats 1600000 in
theorem refNext_ok (h : Rl w Av v L) (room last : Int) (hr : 0 ≤ last ∧ last < 4294967296) (hl : L.length < 998) : Calls Try.prog 24 #[.agg #[.int .i64 room, .int .u32 last, v]] w fun e w' => e = .returned (.tuple #[.agg #[.int .i64 room, .int .u32 (nx (keys L) last), v], .int .u32 (nx (keys L) last)]) ∧ Below w.heap.size w w' := by
  have h0 := h
  obtain ⟨q, cap, rfl, _⟩ := h0
  have hT := two_start w room last (.slice q L.length cap)
  go_enter Try.func24, Try.ntmps24
  have c1 := hT.arg.c1
  go_wp2_with fail
  generalize (w.alloc (.cells #[.int .i64 room, .int .u32 last, .slice q L.length cap] 39)).alloc (.cells #[.int .i64 0, .int .u32 0, .slice none 0 0] 39) = W at hT c1 ⊢
  go_loopw [4] (fun n wr => ∃ x : Int, (0 ≤ x ∧ x < 4294967296) ∧ n = .int .u32 x ∧ nx (keys L) x = nx (keys L) last ∧ Two w wr room last (.slice q L.length cap) 0 0 (.slice none 0 0)) (fun n _ => dist (keys L) 1000 (intOf n))
  case atStart => exact ⟨last, hr, rfl, rfl, hT⟩
  case round =>
    clear hT c1
    obtain ⟨x, hx, rfl, hnx, hT⟩ := hrel
    have c0 := hT.arg.c0
    have c1 := hT.arg.c1
    have c2 := hT.arg.c2
    have hsn := nx_step (K := keys L) (x := x) (by simpa [keys] using hl)
    have hsf := nx_free (K := keys L) (x := x)
    by_cases h0 : step x = 0
    · have hfr : free (keys L) (step x) = false := by simp [free, h0]
      obtain ⟨hn1, hn2⟩ := hsn hfr
      have h0' : (x + 1) % 4294967296 = 0 := by rw [step_eq]; exact h0
      go_wp2
      go_roundw
      · exact ⟨step x, step_range x, by rw [step_eq], hn1.symm.trans hnx, hT⟩
      · simp only [intOf]; rw [step_eq]; exact hn2
    · have hx1 : x + 1 < 4294967296 := by
        refine Decidable.byContradiction fun hn => h0 ?_
        rw [← step_eq]
        omega
      have hs1 : step x = x + 1 := by rw [← step_eq]; omega
      have h0' : ¬ x + 1 = 0 := by omega
      have hsr := step_range x
      rw [hs1] at hsn hsf h0 hsr
      clear hs1
      have hRl : Rl wr Av (.slice q L.length cap) L := by
        obtain ⟨q', cap', e, hc', hh⟩ := h
        cases e
        refine ⟨_, _, rfl, hc', fun hl => ?_⟩
        obtain ⟨b, off, rfl, g1, g2, g3⟩ := hh hl
        exact ⟨b, off, rfl, g1, Nat.lt_of_lt_of_le g2 hT.low.size, fun j e he => ⟨(hT.low.cell (p := ⟨b, off + j * 2, none⟩) g2).trans (g3 j e he).1, (hT.low.cell (p := ⟨b, off + j * 2 + 1, none⟩) g2).trans (g3 j e he).2⟩⟩
      have hfd := find_ok hRl room last (x + 1) (by omega)
      go_wp2_with fail
      go_at_call 13
      refine hfd.mono ?_
      rintro e w2 ⟨rfl, hB2⟩
      have hT2 := hT.below hB2
      clear hT hfd c0 c1 c2
      by_cases hm : x + 1 ∈ keys L
      · have hfr : free (keys L) (x + 1) = false := by simp [free, hm]
        obtain ⟨hn1, hn2⟩ := hsn hfr
        have hi : ¬ findI L (x + 1) < 0 := by simp [findI, hm]
        generalize findI L (x + 1) = i at hi ⊢
        go_wp2
        go_roundw
        · exact ⟨x + 1, hsr, rfl, hn1.symm.trans hnx, hT2⟩
        · simp only [intOf]; exact hn2
      · have hfr : free (keys L) (x + 1) = true := by simp [free, h0, hm]
        have hn1 := hsf hfr
        rw [findI_none hm]
        clear hsn hsf
        have c0 := hT2.arg.c0
        have c1 := hT2.arg.c1
        have c2 := hT2.arg.c2
        have f1 := hT2.arg.fz 1
        have d0 := hT2.res.c0
        have d1 := hT2.res.c1
        have d2 := hT2.res.c2
        have g0 := hT2.res.fz 0
        have g1 := hT2.res.fz 1
        have g2 := hT2.res.fz 2
        go_wp2
        rw [← hnx, hn1]
        refine bodyPost_ret (v := .tuple #[.agg #[.int .i64 room, .int .u32 (x + 1), .slice q L.length cap], .int .u32 (x + 1)]) (by rw [results_cell_tmp1 rfl]; go_simp) rfl ?_
        exact ⟨rfl, (((hT2.low.setCell (p := ⟨w.heap.size, 1, none⟩) (Nat.le_refl _) _).setCell (p := ⟨w.heap.size + 1, 0, none⟩) (by simp) _).setCell (p := ⟨w.heap.size + 1, 1, none⟩) (by simp) _).setCell (p := ⟨w.heap.size + 1, 2, none⟩) (by simp) _⟩
end
end Go.Proofs.Ythminmcdkcnkpaa
