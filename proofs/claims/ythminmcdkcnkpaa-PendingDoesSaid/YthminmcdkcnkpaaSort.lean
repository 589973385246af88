/- List, whole. -/
import Derived.Test.YthminmcdkcnkpaaSorted
import Derived.Test.YthminmcdkcnkpaaShelf
namespace Go.Proofs.Ythminmcdkcnkpaa
open Go.RowKit Go.Maps Go.Sort Go.Proofs
section
variable {w w' : World} {p b n : Nat} {room turns last : Int} {L : List En}

theorem row_slice {base e size m : Nat} {v : Value} {xs : List Value} (h : w.ownsRow base e size v m xs) : ∃ q c, v = .slice q m c := by
  obtain ⟨_, ⟨rfl, rfl⟩ | ⟨g, cap, cur, rfl, _⟩⟩ := h
  · exact ⟨_, _, rfl⟩
  · exact ⟨_, _, rfl⟩

theorem sort_nil (q : Option Addr) (c : Nat) (fv : Value) (W : World) : Calls Try.prog 18 #[.slice q 0 c, fv] W fun e w' => e = .returned (.tuple #[]) ∧ w' = W :=
  AnyF.slices_SortFunc_none { Try.sortL with } q c fv W

set_option maxHeartbeats 1000000 in
theorem list_ok (h : Tab w p b n room turns last L) (hn : L.length ≤ 100000) (hO : Ord L) :
    Calls Try.prog 9 #[.pointer (some ⟨p, 0, none⟩)] w fun e w' => ∃ v, e = .returned v ∧ w'.ownsRow w.heap.size 22 1 v L.length ((keys L).map (Value.int .u32)) ∧ Ext (fun _ => False) w w' := by
  have hnd : (keys L).Nodup := by obtain ⟨D, _, hM⟩ := h.map; exact hM.nd
  refine list_walk h hn (fun W v xs B hE hrow hB hwB hp hwf hb => ?_)
  have hT := h.keep hE (fun h => h) (fun h => h)
  by_cases hx0 : xs = []
  · subst hx0
    have hk : keys L = [] := hp.symm.eq_nil
    rw [hk]
    obtain ⟨q, c, rfl⟩ := row_slice hrow
    refine (sort_nil q c _ W).mono ?_
    rintro e w' ⟨rfl, hw⟩
    have hw := hw.symm
    subst hw
    exact ⟨rfl, Ext.refl _ _, hrow⟩
  · obtain ⟨h0, ⟨_, h1⟩ | ⟨g, cap, cur, rfl, hg, hbk, hc1, hc2, hc3, hc4⟩⟩ := hrow
    · exact absurd (List.length_eq_zero_iff.1 h1) hx0
    · have hss : (xs.map toU).map encU = xs.map (Value.int .u32) := by
        rw [List.map_map]
        exact List.map_congr_left fun x hx => encU_toU (hwf x hx)
      have hlen : (xs.map toU).length = xs.length := by simp
      have hpl : p < w.heap.size := h.lt
      have hbl := h.blt
      have eg : ∀ args w, (callFunc 19 args).run Try.prog w = .ok (.enter 19 args) w := enters_of Try.func19 (by kernel_rfl) rfl
      have hH := holds_u (ss := xs.map toU) hbk (by rw [hss, hlen]; simpa using hc4)
      have hcmp : CmpLays1 Try.prog 19 #[.pointer (some ⟨B, 0, none⟩)] encU (cfU L) g 0 (xs.map toU).toArray.size W := CmpReads.lays (fun m os dk hs x y => by
        have hT2 := hT.keep (ext_sw (os := os) (n := m) (g := g) dk) (show ¬ p = g by omega) (show ¬ b = g by omega)
        have hb2 := ((ext_sw (w := W) (os := os) (n := m) (g := g) dk).cell (p := ⟨B, 0, none⟩) hB (show ¬ B = g by omega)).trans hb
        exact closure_ok hT2 hb2 (u_range x) (u_range y))
      have hsz : (xs.map toU).toArray.size < 4611686018427387904 := by
        have := hp.length_eq
        simp [keys] at this ⊢
        omega
      have hcon := Any.slices_SortFunc Try.sortL encU (fun _ => rfl) (cfU L) (swo_cf L) 19 #[.pointer (some ⟨B, 0, none⟩)] g 0 cap (xs.map toU).toArray W eg hcmp hH (lt_of_block hbk) hsz
      have hsl : (xs.map toU).toArray.size = xs.length := by simp
      rw [hsl] at hcon
      change Calls Try.prog 18 _ _ _ at hcon
      refine hcon.mono ?_
      rintro e w' ⟨rfl, d', m, os, ⟨hd1, hd2, hd3⟩, hd4, rfl⟩
      have hds : d'.size = xs.length := by rw [hd1]; simp
      have hperm : d'.toList.Perm (xs.map toU) := by
        have e1 : d'.extract 0 xs.length = d' := by rw [← hds]; simp
        have e2 : (xs.map toU).toArray.extract 0 xs.length = (xs.map toU).toArray := by rw [← hsl, Array.extract_size]
        rw [e1, e2] at hd3
        simpa using hd3
      have hint : ∀ u : UInt32, u ∈ d'.toList → ∃ x ∈ xs, u = toU x := fun u hu => by
        obtain ⟨x, hx, rfl⟩ := List.mem_map.1 (hperm.subset hu)
        exact ⟨x, hx, rfl⟩
      have hkeys : d'.toList.map (fun u : UInt32 => (u.toNat : Int)) = keys L := by
        refine ord_keys hnd hO ?_ ?_
        · refine (hperm.map _).trans ?_
          rw [List.map_map]
          have : (xs.map ((fun u : UInt32 => (u.toNat : Int)) ∘ toU)) = xs := by
            conv => rhs; rw [← List.map_id xs]
            refine List.map_congr_left fun x hx => ?_
            have := encU_toU (hwf x hx)
            simp only [encU] at this
            injection this
          rw [this]
          exact hp
        · rw [List.pairwise_map, List.pairwise_iff_getElem]
          intro i j hi hj hij
          have := hd4 i j (Nat.zero_le _) hij (by simpa [hds] using hj)
          rw [lt_cf] at this
          simp only [decide_eq_false_iff_not] at this
          rw [getElem!_pos d' i (by simpa using hi), getElem!_pos d' j (by simpa using hj)] at this
          simpa using this
      refine ⟨rfl, (ext_sw d').mono (fun k _ hk => by omega), ?_⟩
      have hmap : (keys L).map (Value.int .u32) = d'.toList.map encU := by rw [← hkeys, List.map_map]; rfl
      rw [hmap]
      refine ⟨by simp [hds], .inr ⟨g, cap, _, rfl, hg, heap_sw d' hbk, hc1, hc2, by simp [putCells, hc3], ?_⟩⟩
      have := take_put cur d'.toList (by rw [Array.length_toList, hds, hc3]; omega)
      rw [Array.length_toList, hds] at this
      simpa using this
end
end Go.Proofs.Ythminmcdkcnkpaa
