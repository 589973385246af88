/- The document's Close. -/
import Derived.Test.YthminmcdkcnkpaaRefDrop
namespace Go.Proofs.Ythminmcdkcnkpaa
open Go.RowKit Go.Maps
section
variable {w w' : World} {Av Av' : Nat → Prop} {v : Value} {L : List En}

theorem Rl.low {w w' : World} (h : Rl w Av v L) (hB : Below w.heap.size w w') : Rl w' (fun k => Av k ∧ k < w.heap.size) v L := by
  obtain ⟨q, cap, rfl, hc, h⟩ := h
  refine ⟨q, cap, rfl, hc, fun hl => ?_⟩
  obtain ⟨b, off, rfl, h1, h2, h3⟩ := h hl
  exact ⟨b, off, rfl, fun a => h1 a.1, Nat.lt_of_lt_of_le h2 hB.size, fun j e he => ⟨(hB.cell (p := ⟨b, off + j * 2, none⟩) h2).trans (h3 j e he).1, (hB.cell (p := ⟨b, off + j * 2 + 1, none⟩) h2).trans (h3 j e he).2⟩⟩
theorem find_key {x : Int} (hm : x ∈ keys L) : ∃ (k : Nat) (e : En), L[k]? = some e ∧ e.1 = x ∧ findI L x = k ∧ k < L.length := by
  have hil : (keys L).idxOf x < (keys L).length := List.idxOf_lt_length_iff.2 hm
  have hil' : (keys L).idxOf x < L.length := by simpa [keys] using hil
  have hg : (keys L)[(keys L).idxOf x] = x := List.getElem_idxOf hil
  refine ⟨_, _, List.getElem?_eq_getElem hil', ?_, by simp [findI, hm], hil'⟩
  simp only [keys, List.getElem_map] at hg
  exact hg

set_option maxRecDepth 20000 in
set_option maxHeartbeats 6400000 in
theorem refClose_ok (h : Rl w Av v L) (room last x k : Int) (hl : L.length ≤ 100000) (hnd : (keys L).Nodup) : Calls Try.prog 22 #[.agg #[.int .i64 room, .int .u32 last, v], .int .u32 x, .int .i64 k] w fun e w' => ∃ v', e = .returned (.tuple #[.agg #[.int .i64 room, .int .u32 last, v'], .int .i64 (closeCode L x k)]) ∧ Rl w' (fun k => Av k ∧ k < w.heap.size) v' (closeL L x k) ∧ Below w.heap.size w w' := by
  have h0 := h
  obtain ⟨q, cap, rfl, hcp, hh⟩ := h0
  have hT := two_start w room last (.slice q L.length cap)
  have hfd : ∀ W, Below w.heap.size w W → Calls Try.prog 13 #[.agg #[.int .i64 room, .int .u32 last, .slice q L.length cap], .int .u32 x] W fun e w' => e = .returned (.int .i64 (findI L x)) ∧ Below W.heap.size W w' := fun W hW => find_ok (h.low hW) room last x hl
  go_enter Try.func22, Try.ntmps22
  have c0 := hT.arg.c0
  have c1 := hT.arg.c1
  have c2 := hT.arg.c2
  go_wp2_with fail
  generalize (w.alloc (.cells #[.int .i64 room, .int .u32 last, .slice q L.length cap] 39)).alloc (.cells #[.int .i64 0, .int .u32 0, .slice none 0 0] 39) = W at hT c0 c1 c2 ⊢
  go_at_call 13
  refine (hfd W hT.low).mono ?_
  rintro e w2 ⟨rfl, hB2⟩
  replace hT := hT.below hB2
  clear hB2 c0 c1 c2 hfd
  have c0 := hT.arg.c0
  have c1 := hT.arg.c1
  have c2 := hT.arg.c2
  have d0 := hT.res.c0
  have d1 := hT.res.c1
  have d2 := hT.res.c2
  have g0 := hT.res.fz 0
  have g1 := hT.res.fz 1
  have g2 := hT.res.fz 2
  by_cases hm : x ∈ keys L
  · obtain ⟨j, e, he, hex, hfi, hj⟩ := find_key hm
    rw [hfi]
    have hja : (j : Int) < (L.length : Int) := by omega
    obtain ⟨b, off, rfl, hb1, hb2, hb3⟩ := hh (by intro e; simp [e] at hj)
    have c4 := (hT.low.cell (p := ⟨b, off + j * 2 + 1, none⟩) hb2).trans (hb3 j e he).2
    have hvl : valAt L x = e.2 := val_mem hnd (List.mem_of_getElem? he) hex
    have hans := refAnswer_ok e.2.1 w2
    rw [show (if isAsk e.2.1 = true then e.2.1 + 1 else 0) = ansOf e.2.1 from rfl] at hans
    go_wp2_with fail
    go_at_call 29
    refine hans.mono ?_
    rintro e' w3 ⟨rfl, hw⟩
    have hw := hw.symm
    subst hw
    have hv1 : (valAt L x).1 = e.2.1 := by rw [hvl]
    clear hans hvl c4
    generalize isAsk e.2.1 = qa
    by_cases ha : ansOf e.2.1 = k
    · have e1 : closeCode L x k = 0 := by simp [closeCode, hm, hv1, ha]
      have e2 : closeL L x k = strike L x := by simp [closeL, hm, hv1, ha]
      rw [ha]
      have hdr := refDrop_ok (h.low hT.low) room last x hl hnd
      go_wp2_with fail
      go_at_call 23
      refine hdr.mono ?_
      rintro e' w3 ⟨v', rfl, hR, hB3⟩
      have hT3 := hT.below hB3
      have hwlt := hT.low.size
      have hlt1 := hT.res.lt
      clear hdr hT c0 c1 c2 d0 d1 d2 g0 g1 g2
      have c0 := hT3.arg.c0
      have c1 := hT3.arg.c1
      have c2 := hT3.arg.c2
      have d0 := hT3.res.c0
      have d1 := hT3.res.c1
      have d2 := hT3.res.c2
      have g0 := hT3.res.fz 0
      have g1 := hT3.res.fz 1
      have g2 := hT3.res.fz 2
      have f0 := hT3.arg.fz 0
      have f1 := hT3.arg.fz 1
      have f2 := hT3.arg.fz 2
      have hE : ∀ a1 a2 a3 b c d, Ext (fun k => w.heap.size ≤ k ∧ k < w2.heap.size) w3 ((((((w3.setCell ⟨w.heap.size, 0, none⟩ a1).setCell ⟨w.heap.size, 1, none⟩ a2).setCell ⟨w.heap.size, 2, none⟩ a3).setCell ⟨w.heap.size + 1, 0, none⟩ b).setCell ⟨w.heap.size + 1, 1, none⟩ c).setCell ⟨w.heap.size + 1, 2, none⟩ d) := fun a1 a2 a3 b c d =>
        (((((((Ext.refl _ w3).setCell (p := ⟨w.heap.size, 0, none⟩) (.inl (by simp; omega)) a1).setCell (p := ⟨w.heap.size, 1, none⟩) (.inl (by simp; omega)) a2).setCell (p := ⟨w.heap.size, 2, none⟩) (.inl (by simp; omega)) a3).setCell (p := ⟨w.heap.size + 1, 0, none⟩) (.inl (by simp; omega)) b).setCell (p := ⟨w.heap.size + 1, 1, none⟩) (.inl (by simp; omega)) c).setCell (p := ⟨w.heap.size + 1, 2, none⟩) (.inl (by simp; omega)) d)
      have hfin : ∀ a1 a2 a3 b c d, Rl ((((((w3.setCell ⟨w.heap.size, 0, none⟩ a1).setCell ⟨w.heap.size, 1, none⟩ a2).setCell ⟨w.heap.size, 2, none⟩ a3).setCell ⟨w.heap.size + 1, 0, none⟩ b).setCell ⟨w.heap.size + 1, 1, none⟩ c).setCell ⟨w.heap.size + 1, 2, none⟩ d) (fun k => Av k ∧ k < w.heap.size) v' (strike L x) := fun a1 a2 a3 b c d =>
        (hR.keep (hE a1 a2 a3 b c d) (fun k _ hk => hk.2)).mono (fun k _ hk => by omega)
      have hfB : ∀ a1 a2 a3 b c d, Below w.heap.size w ((((((w3.setCell ⟨w.heap.size, 0, none⟩ a1).setCell ⟨w.heap.size, 1, none⟩ a2).setCell ⟨w.heap.size, 2, none⟩ a3).setCell ⟨w.heap.size + 1, 0, none⟩ b).setCell ⟨w.heap.size + 1, 1, none⟩ c).setCell ⟨w.heap.size + 1, 2, none⟩ d) := fun a1 a2 a3 b c d =>
        hT3.low.trans ((hE a1 a2 a3 b c d).below hT3.low.size (fun k h1 h2 => by omega))
      obtain ⟨q3, c3, rfl, _⟩ := hR
      clear hT3 hE
      go_wp2
      refine bodyPost_ret (v := .tuple #[.agg #[.int .i64 room, .int .u32 last, .slice q3 (strike L x).length c3], .int .i64 0]) (by rw [results_cell_tmp1 rfl]; go_simp) rfl ?_
      rw [e1, e2]
      exact ⟨_, rfl, hfin _ _ _ _ _ _, hfB _ _ _ _ _ _⟩
    · have e1 : closeCode L x k = 10001 := by simp [closeCode, hm, hv1, ha]
      have e2 : closeL L x k = L := by simp [closeL, hm, hv1, ha]
      generalize ansOf e.2.1 = an at *
      go_wp2
      refine bodyPost_ret (v := .tuple #[.agg #[.int .i64 room, .int .u32 last, .slice (some ⟨b, off, none⟩) L.length cap], .int .i64 10001]) (by rw [results_cell_tmp1 rfl]; go_simp) rfl ?_
      rw [e1, e2]
      have hB : ∀ b c d, Below w.heap.size w (((w2.setCell ⟨w.heap.size + 1, 0, none⟩ b).setCell ⟨w.heap.size + 1, 1, none⟩ c).setCell ⟨w.heap.size + 1, 2, none⟩ d) := fun b c d =>
          ((hT.low.setCell (p := ⟨w.heap.size + 1, 0, none⟩) (by simp) b).setCell (p := ⟨w.heap.size + 1, 1, none⟩) (by simp) c).setCell (p := ⟨w.heap.size + 1, 2, none⟩) (by simp) d
      exact ⟨_, rfl, h.low (hB _ _ _), hB _ _ _⟩
  · rw [findI_none hm]
    have e1 : closeCode L x k = 10004 := by simp [closeCode, hm]
    have e2 : closeL L x k = L := by simp [closeL, hm]
    go_wp2
    refine bodyPost_ret (v := .tuple #[.agg #[.int .i64 room, .int .u32 last, .slice q L.length cap], .int .i64 10004]) (by rw [results_cell_tmp1 rfl]; go_simp) rfl ?_
    rw [e1, e2]
    have hB : ∀ b c d, Below w.heap.size w (((w2.setCell ⟨w.heap.size + 1, 0, none⟩ b).setCell ⟨w.heap.size + 1, 1, none⟩ c).setCell ⟨w.heap.size + 1, 2, none⟩ d) := fun b c d =>
        ((hT.low.setCell (p := ⟨w.heap.size + 1, 0, none⟩) (by simp) b).setCell (p := ⟨w.heap.size + 1, 1, none⟩) (by simp) c).setCell (p := ⟨w.heap.size + 1, 2, none⟩) (by simp) d
    exact ⟨_, rfl, h.low (hB _ _ _), hB _ _ _⟩
end
end Go.Proofs.Ythminmcdkcnkpaa
