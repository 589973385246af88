/- The document's Feed and Held. -/
import Derived.Test.YtlacngdbembkkaaFeed
namespace Go.Proofs.Ytlacngdbembkkaa
open Go.RowKit Go.Shelf

theorem results_cell_tmp2 {fn : Func} {p u v : Tmp} {ty : TypeId} (h : fn.results = #[.cell p ty, .tmp u, .tmp v]) (tmps : Array Value) (P : Program) (w : World) :
    (results fn tmps).run P w =
      ((asAddr (tmps.getD p undef)).run P w).andThen fun a w₁ => ((loadVar ty a).run P w₁).andThen fun x w₂ => .ok (.tuple #[x, tmps.getD u undef, tmps.getD v undef]) w₂ := by
  simp only [results, h]
  simp [Sem.run_bind, Result.andThen]

/-- What the document's Feed does. -/
def refL (al : List Int) (told : Nat) (f : Bool) (c : List Int) : (List Int × Nat × Bool) × List (List Int) :=
  match f with
  | true => ((al, told, true), [])
  | false => ((al ++ c, (splitL (al ++ c)).1.length, (splitL (al ++ c)).2.2), (splitL (al ++ c)).1.drop told)

theorem heap_setCell_at {w : World} {b : Nat} {cs : Array Value} {t : TypeId} {fr : Nat × Nat} (h : w.heap[b]? = some (.cells cs t fr)) (i : Nat) (v : Value) : (w.setCell ⟨b, i, none⟩ v).heap[b]? = some (.cells (cs.setIfInBounds i v) t fr) := by
  simp [World.setCell, Array.getElem?_modify, h]

set_option maxHeartbeats 3200000 in
theorem refFeed_ok {w : World} {Av Av2 : Nat → Prop} {av cv : Value} {al c : List Int} {td : Nat} {failed : Bool} (ha : Bs w Av av al) (hc : Bs w Av2 cv c) (hba : Byt al) (hbc : Byt c) (hn : al.length + c.length ≤ 1000000) (ht : failed = false → td ≤ (splitL (al ++ c)).1.length) :
    Calls Try.prog 11 #[.agg #[av, .int .i64 td, .bool failed], cv] w fun e w' => ∃ av' ov, e = .returned (.tuple #[.agg #[av', .int .i64 ((refL al td failed c).1.2.1 : Nat), .bool (refL al td failed c).1.2.2], ov, .int .i64 (codeOf (refL al td failed c).1.2.2)]) ∧
      Bs w' (fun k => Av k ∧ k < w.heap.size) av' (refL al td failed c).1.1 ∧ Fs w' (fun k => k < w.heap.size) ov (refL al td failed c).2 ∧ Below w.heap.size w w' := by
  have ha0 := ha
  obtain ⟨qa, ca, rfl, hca, ha⟩ := ha
  cases failed with
  | true =>
    rw [show refL al td true c = ((al, td, true), []) from rfl]
    go_enter Try.func11, Try.ntmps11
    go_wp2
    refine bodyPost_ret (v := .tuple #[.agg #[.slice qa al.length ca, .int .i64 td, .bool true], .slice none 0 0, .int .i64 263]) (by rw [results_cell_tmp2 rfl]; go_simp) rfl ?_
    have hB : ∀ o1 o2, Below w.heap.size w ((w.alloc o1).alloc o2) := fun o1 o2 => ((Below.refl _ w).alloc (Nat.le_refl _) o1).alloc (by simp) o2
    exact ⟨_, _, rfl, (ha0.belowA (hB _ _)).mono (fun _ _ h => h.1), ⟨none, 0, rfl, Nat.le_refl _, fun h => absurd rfl h⟩, hB _ _⟩
  | false =>
    have ht := ht rfl
    obtain ⟨fs, rest, bad, hS⟩ : ∃ fs rest bad, splitL (al ++ c) = (fs, rest, bad) := ⟨_, _, _, rfl⟩
    rw [show refL al td false c = ((al ++ c, fs.length, bad), fs.drop td) by simp [refL, hS]]
    rw [hS] at ht
    simp only at ht ⊢
    obtain ⟨W0, hW0⟩ : ∃ W0, (w.alloc (.cells #[.slice qa al.length ca, .int .i64 td, .bool false] 29)).alloc (.cells #[.slice none 0 0, .int .i64 0, .bool false] 29) = W0 := ⟨_, rfl⟩
    have hB0 : Below w.heap.size w W0 := by rw [← hW0]; exact ((Below.refl _ w).alloc (Nat.le_refl _) _).alloc (by simp) _
    have hs0 : W0.heap.size = w.heap.size + 2 := by rw [← hW0]; simp
    have hbox : W0.heap[w.heap.size]? = some (.cells #[.slice qa al.length ca, .int .i64 td, .bool false] 29 (0, 0)) := by
      rw [← hW0]; exact (Below.heap_alloc _ _ _ (by simp)).trans (World.alloc_heap_new w _)
    have hres : W0.heap[w.heap.size + 1]? = some (.cells #[.slice none 0 0, .int .i64 0, .bool false] 29 (0, 0)) := by
      rw [← hW0]
      have := World.alloc_heap_new (w.alloc (.cells #[.slice qa al.length ca, .int .i64 td, .bool false] 29)) (.cells #[.slice none 0 0, .int .i64 0, .bool false] 29)
      simpa using this
    have k0 : W0.cell? ⟨w.heap.size, 0, none⟩ = some (.slice qa al.length ca) := by simp [World.cell?, hbox]
    have k1 : W0.cell? ⟨w.heap.size, 1, none⟩ = some (.int .i64 td) := by simp [World.cell?, hbox]
    have k2 : W0.cell? ⟨w.heap.size, 2, none⟩ = some (.bool false) := by simp [World.cell?, hbox]
    have hown0 : (W0.alloc (.cells #[] 5)).ownsRow (w.heap.size + 2) 5 1 (.slice (some ⟨w.heap.size + 2, 0, none⟩) 0 0) 0 [] := by rw [← hs0]; exact World.ownsRow_lit W0 #[] 0 (Nat.le_refl _) (by decide) rfl
    have hb1 : Bs (W0.alloc (.cells #[] 5)) Av (.slice qa al.length ca) al := (ha0.belowA hB0).keep ((Ext.refl (fun _ => False) W0).alloc _) (fun _ _ h => h.elim)
    go_enter Try.func11, Try.ntmps11
    go_wp2_with (first
      | (at_builtin; refine wpList_append_bs _ rfl (.tmp 14) (.tmp 16) rfl (w.heap.size + 2) _ _ _ rfl hown0 _ al Av rfl hb1 (by omega) (by simp; omega) ?_; intro v1 w1 hown1 hg1 _; replace hg1 : (W0.alloc (.cells #[] 5)).grownBy w1 (some (w.heap.size + 2)) := hg1; have hB1 : Below (w.heap.size + 2) W0 w1 := ((Below.refl _ _).alloc (by omega) _).grown hg1 (by simp; omega) (fun k hk => by cases hk; exact Nat.le_refl _); simp only [Nat.zero_add, List.nil_append] at hown1; have hs1 : w.heap.size + 2 ≤ w1.heap.size := (by have := hB1.size; omega); have hc1 : Bs w1 Av2 cv c := (hc.belowA hB0).belowA (by rw [hs0]; exact hB1))
      | (at_builtin; refine wpList_append_bs _ rfl (.tmp 17) (.tmp 18) rfl (w.heap.size + 2) _ _ _ rfl hown1 _ c Av2 rfl hc1 (by omega) hs1 ?_; intro v2 w2 hown2 hg2 _; have hB2 : Below (w.heap.size + 2) W0 w2 := hB1.grown hg2 hs1 (fun k hk => (World.ownsRow.lt hown1 k hk).1); obtain ⟨q2, c2, rfl⟩ := row_slice hown2; have kz2 : w2.frozen? ⟨w.heap.size, 0, none⟩ = false := (hB2.frozen (p := ⟨w.heap.size, 0, none⟩) (by simp)).trans (by simp [World.frozen?, hbox]); have kc2 : w2.cell? ⟨w.heap.size, 0, none⟩ = some (.slice qa al.length ca) := (hB2.cell (p := ⟨w.heap.size, 0, none⟩) (by simp)).trans k0))
    have hown3 : Own5 (w2.setCell ⟨w.heap.size, 0, none⟩ (.slice q2 (al.length + c.length) c2)) (w.heap.size + 2) (.slice q2 (al.length + c.length) c2) (al ++ c) := by
      show World.ownsRow _ _ _ _ _ _ _
      rw [List.length_append, List.map_append]
      exact ownsRow_setCell_below hown2 (by simp) _
    obtain ⟨W3, hW3⟩ : ∃ W3, w2.setCell ⟨w.heap.size, 0, none⟩ (.slice q2 (al.length + c.length) c2) = W3 := ⟨_, rfl⟩
    have hB3 : Below w.heap.size w W3 := by
      rw [← hW3]
      exact (hB0.trans (hB2.mono (by omega))).setCell (p := ⟨w.heap.size, 0, none⟩) (Nat.le_refl _) _
    have hs3 : w.heap.size + 2 ≤ W3.heap.size := by
      have h1 := hB2.size
      rw [← hW3]
      simpa [World.setCell] using Nat.le_trans (Nat.le_of_eq hs0.symm) h1
    have hbox3 : W3.heap[w.heap.size]? = some (.cells #[.slice q2 (al.length + c.length) c2, .int .i64 td, .bool false] 29 (0, 0)) := by
      have h2 : w2.heap[w.heap.size]? = some (.cells #[.slice qa al.length ca, .int .i64 td, .bool false] 29 (0, 0)) := (hB2.block _ (by omega)).trans hbox
      rw [← hW3]
      exact heap_setCell_at h2 0 _
    have hres3 : W3.heap[w.heap.size + 1]? = some (.cells #[.slice none 0 0, .int .i64 0, .bool false] 29 (0, 0)) := by
      rw [← hW3, Below.heap_setCell _ _ _ _ (by simp)]
      exact (hB2.block _ (by omega)).trans hres
    rw [hW3] at hown3 ⊢
    have hbs3 := hown3.bs
    have hsp := refSplit_ok hbs3 (hba.append hbc) (by simp; omega)
    rw [hS] at hsp
    simp only at hsp
    refine hsp.mono ?_
    rintro e w4 ⟨fv, lv, rfl, hfr, hlv, hB4⟩
    have hbox4 : w4.heap[w.heap.size]? = some (.cells #[.slice q2 (al.length + c.length) c2, .int .i64 td, .bool false] 29 (0, 0)) := (hB4.block _ (by omega)).trans hbox3
    have hres4 : w4.heap[w.heap.size + 1]? = some (.cells #[.slice none 0 0, .int .i64 0, .bool false] 29 (0, 0)) := (hB4.block _ (by omega)).trans hres3
    have j0 : w4.cell? ⟨w.heap.size, 0, none⟩ = some (.slice q2 (al.length + c.length) c2) := by simp [World.cell?, hbox4]
    have j1 : w4.cell? ⟨w.heap.size, 1, none⟩ = some (.int .i64 td) := by simp [World.cell?, hbox4]
    have j2 : w4.cell? ⟨w.heap.size, 2, none⟩ = some (.bool false) := by simp [World.cell?, hbox4]
    have z1 : w4.frozen? ⟨w.heap.size, 1, none⟩ = false := by simp [World.frozen?, hbox4]
    have z2 : w4.frozen? ⟨w.heap.size, 2, none⟩ = false := by simp [World.frozen?, hbox4]
    have r0 : w4.cell? ⟨w.heap.size + 1, 0, none⟩ = some (.slice none 0 0) := by simp [World.cell?, hres4]
    have r1 : w4.cell? ⟨w.heap.size + 1, 1, none⟩ = some (.int .i64 0) := by simp [World.cell?, hres4]
    have r2 : w4.cell? ⟨w.heap.size + 1, 2, none⟩ = some (.bool false) := by simp [World.cell?, hres4]
    have y0 : w4.frozen? ⟨w.heap.size + 1, 0, none⟩ = false := by simp [World.frozen?, hres4]
    have y1 : w4.frozen? ⟨w.heap.size + 1, 1, none⟩ = false := by simp [World.frozen?, hres4]
    have y2 : w4.frozen? ⟨w.heap.size + 1, 2, none⟩ = false := by simp [World.frozen?, hres4]
    have hB04 : Below w.heap.size w w4 := hB3.trans (hB4.mono (by omega))
    have hbs4 : Bs w4 (fun k => k < w.heap.size + 2) (.slice q2 (al.length + c.length) c2) (al ++ c) := hbs3.belowA hB4
    have hfs4 := hfr.fs
    have hlt4 : w.heap.size + 1 < w4.heap.size := by have := hB4.size; omega
    clear hbox hres hbox3 hres3 hbox4 hres4 k0 k1 k2 hW0 hW3 hS hsp ha hb1 hown0 hown1 hown2 hg1 hg2 hc1
    have htd : (td : Int) ≤ (fs.length : Int) := by omega
    obtain ⟨qf, cf, rfl⟩ := row_slice hfr.choose_spec.1
    have hcf : (fs.length : Int) ≤ (cf : Int) := by
      obtain ⟨p0, c0, e, hc0, _⟩ := hfs4
      cases e; omega
    have htc : (td : Int) ≤ (cf : Int) := by omega
    have hx5 : ∀ x1 x2 x3 x4 x5, Ext (fun k => k < w.heap.size + 2) w4 (((((w4.setCell ⟨w.heap.size, 1, none⟩ x1).setCell ⟨w.heap.size, 2, none⟩ x2).setCell ⟨w.heap.size + 1, 0, none⟩ x3).setCell ⟨w.heap.size + 1, 1, none⟩ x4).setCell ⟨w.heap.size + 1, 2, none⟩ x5) := fun x1 x2 x3 x4 x5 =>
      (((((Ext.refl _ w4).setCell (p := ⟨w.heap.size, 1, none⟩) (.inl (by simp)) x1).setCell (p := ⟨w.heap.size, 2, none⟩) (.inl (by simp)) x2).setCell (p := ⟨w.heap.size + 1, 0, none⟩) (.inl (by simp)) x3).setCell (p := ⟨w.heap.size + 1, 1, none⟩) (.inl (by simp)) x4).setCell (p := ⟨w.heap.size + 1, 2, none⟩) (.inl (by simp)) x5
    have hb5 : ∀ x1 x2 x3 x4 x5, Below w.heap.size w (((((w4.setCell ⟨w.heap.size, 1, none⟩ x1).setCell ⟨w.heap.size, 2, none⟩ x2).setCell ⟨w.heap.size + 1, 0, none⟩ x3).setCell ⟨w.heap.size + 1, 1, none⟩ x4).setCell ⟨w.heap.size + 1, 2, none⟩ x5) := fun x1 x2 x3 x4 x5 =>
      ((((hB04.setCell (p := ⟨w.heap.size, 1, none⟩) (Nat.le_refl _) x1).setCell (p := ⟨w.heap.size, 2, none⟩) (Nat.le_refl _) x2).setCell (p := ⟨w.heap.size + 1, 0, none⟩) (by simp) x3).setCell (p := ⟨w.heap.size + 1, 1, none⟩) (by simp) x4).setCell (p := ⟨w.heap.size + 1, 2, none⟩) (by simp) x5
    cases qf with
    | none =>
      have h00 : fs.length = 0 := by
        rcases hfr.choose_spec.1.2 with ⟨e, h0⟩ | ⟨g, cap, cur, e, _⟩
        · exact h0
        · cases e
      have hfs0 : fs = [] := List.length_eq_zero_iff.1 h00
      have ht0 : td = 0 := by omega
      subst hfs0
      subst ht0
      cases bad with
      | true =>
        go_wp2
        refine bodyPost_ret (v := .tuple #[.agg #[.slice q2 (al.length + c.length) c2, .int .i64 0, .bool true], .slice none 0 cf, .int .i64 263]) (by rw [results_cell_tmp2 rfl]; go_simp) rfl ?_
        exact ⟨_, _, rfl, (hbs4.keep (hx5 _ _ _ _ _) (fun _ _ h => h)).mono (fun k _ hk => by omega), ⟨none, cf, rfl, Nat.zero_le _, fun h => absurd rfl h⟩, hb5 _ _ _ _ _⟩
      | false =>
        go_wp2
        refine bodyPost_ret (v := .tuple #[.agg #[.slice q2 (al.length + c.length) c2, .int .i64 0, .bool false], .slice none 0 cf, .int .i64 0]) (by rw [results_cell_tmp2 rfl]; go_simp) rfl ?_
        exact ⟨_, _, rfl, (hbs4.keep (hx5 _ _ _ _ _) (fun _ _ h => h)).mono (fun k _ hk => by omega), ⟨none, cf, rfl, Nat.zero_le _, fun h => absurd rfl h⟩, hb5 _ _ _ _ _⟩
    | some ad =>
      obtain ⟨g, rfl⟩ : ∃ g, ad = ⟨g, 0, none⟩ := by
        rcases hfr.choose_spec.1.2 with ⟨e, _⟩ | ⟨g, cap, cur, e, _⟩
        · cases e
        · cases e; exact ⟨g, rfl⟩
      by_cases hct : cf = td
      · subst hct
        have hft : fs.length = cf := by omega
        have hdr : fs.drop cf = [] := by rw [← hft]; simp
        cases bad with
        | true =>
          go_wp2
          refine bodyPost_ret (v := .tuple #[.agg #[.slice q2 (al.length + c.length) c2, .int .i64 fs.length, .bool true], .slice (some ⟨g, 0, none⟩) (fs.length - cf) 0, .int .i64 263]) (by rw [results_cell_tmp2 rfl]; go_simp) rfl ?_
          exact ⟨_, _, rfl, (hbs4.keep (hx5 _ _ _ _ _) (fun _ _ h => h)).mono (fun k _ hk => by omega), ⟨_, 0, by rw [hdr, hft]; simp; rfl, by rw [hdr]; exact Nat.le_refl _, fun h => absurd hdr h⟩, hb5 _ _ _ _ _⟩
        | false =>
          go_wp2
          refine bodyPost_ret (v := .tuple #[.agg #[.slice q2 (al.length + c.length) c2, .int .i64 fs.length, .bool false], .slice (some ⟨g, 0, none⟩) (fs.length - cf) 0, .int .i64 0]) (by rw [results_cell_tmp2 rfl]; go_simp) rfl ?_
          exact ⟨_, _, rfl, (hbs4.keep (hx5 _ _ _ _ _) (fun _ _ h => h)).mono (fun k _ hk => by omega), ⟨_, 0, by rw [hdr, hft]; simp; rfl, by rw [hdr]; exact Nat.le_refl _, fun h => absurd hdr h⟩, hb5 _ _ _ _ _⟩
      · have hct' : (td : Int) < (cf : Int) := by omega
        have hfd : ∀ W, Ext (fun k => k < w.heap.size + 2) w4 W → Fs W (fun k => k < w.heap.size) (.slice (some ⟨g, td, none⟩) (fs.length - td) (cf - td)) (fs.drop td) := fun W hx =>
          ((hfs4.keep hx (fun k _ hk => by omega)).drop td (some ⟨g, td, none⟩) (fun _ => by rw [Nat.zero_add]) (cf - td) (by omega)).mono (fun k _ hk => by omega)
        cases bad with
        | true =>
          go_wp2
          refine bodyPost_ret (v := .tuple #[.agg #[.slice q2 (al.length + c.length) c2, .int .i64 fs.length, .bool true], .slice (some ⟨g, td, none⟩) (fs.length - td) (cf - td), .int .i64 263]) (by rw [results_cell_tmp2 rfl]; go_simp) rfl ?_
          exact ⟨_, _, rfl, (hbs4.keep (hx5 _ _ _ _ _) (fun _ _ h => h)).mono (fun k _ hk => by omega), hfd _ (hx5 _ _ _ _ _), hb5 _ _ _ _ _⟩
        | false =>
          go_wp2
          refine bodyPost_ret (v := .tuple #[.agg #[.slice q2 (al.length + c.length) c2, .int .i64 fs.length, .bool false], .slice (some ⟨g, td, none⟩) (fs.length - td) (cf - td), .int .i64 0]) (by rw [results_cell_tmp2 rfl]; go_simp) rfl ?_
          exact ⟨_, _, rfl, (hbs4.keep (hx5 _ _ _ _ _) (fun _ _ h => h)).mono (fun k _ hk => by omega), hfd _ (hx5 _ _ _ _ _), hb5 _ _ _ _ _⟩
end Go.Proofs.Ytlacngdbembkkaa
