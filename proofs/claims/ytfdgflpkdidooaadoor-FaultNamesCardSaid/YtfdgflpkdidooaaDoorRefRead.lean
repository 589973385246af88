/- The document's Read. -/
import Derived.Test.YtfdgflpkdidooaaDoorReadNone
namespace Go.Proofs.YtfdgflpkdidooaaDoor
open Go.RowKit

theorem nm_pr_ne {e : Int} (h : prOk e = true) : nm e ≠ [] := by simp only [nm]; rw [if_pos h]; simp
theorem nm_all {e : Int} (h : e ∈ allL) : nm e ≠ [] := by
  rcases mem_all.1 h with hb | hp
  · simp only [baseL, List.mem_cons, List.not_mem_nil, or_false] at hb
    rcases hb with rfl | rfl | rfl | rfl | rfl | rfl | rfl | rfl | rfl | rfl <;> decide +kernel
  · exact nm_pr_ne hp
theorem all_nm {e : Int} (h : nm e ≠ []) : e ∈ allL := by
  by_cases hp : prOk e = true
  · exact mem_all.2 (.inr hp)
  · refine mem_all.2 (.inl ?_)
    by_cases h0 : e = 0
    · subst h0; decide
    · by_cases h3 : e = 10337
      · subst h3; decide
      · by_cases h4 : 10001 ≤ e ∧ e ≤ 10008
        · have : e = 10001 ∨ e = 10002 ∨ e = 10003 ∨ e = 10004 ∨ e = 10005 ∨ e = 10006 ∨ e = 10007 ∨ e = 10008 := by omega
          rcases this with rfl | rfl | rfl | rfl | rfl | rfl | rfl | rfl <;> decide
        · exfalso; apply h; simp only [nm]; rw [if_neg hp, if_neg h0, if_neg h3, if_neg h4]

/-- What a text is read as. -/
inductive RdE (l : List UInt8) : Int → Bool → Prop
  | hit (e : Int) (h : nm e = l) (hn : nm e ≠ []) : RdE l e true
  | miss (h : NoName l) : RdE l 0 false
theorem RdE.same {l : List UInt8} {e f : Int} {b c : Bool} (h : RdE l e b) (k : RdE l f c) : e = f ∧ b = c := by
  cases h with
  | hit _ h hn =>
    cases k with
    | hit _ h' hn' => exact ⟨nm_inj hn (h.trans h'.symm), rfl⟩
    | miss h' => exact absurd h (h'.no e hn)
  | miss h =>
    cases k with
    | hit _ h' hn' => exact absurd h' (h.no f hn')
    | miss h' => exact ⟨rfl, rfl⟩

/-- The errors of the list that were gone through do not have this name. -/
structure Past (L : List Int) (l : List UInt8) (k : Nat) : Prop where
  no : ∀ j, j < k → nm (L.getD j 0) ≠ l
theorem Past.step {L : List Int} {l : List UInt8} {k : Nat} (h : Past L l k) (hk : nm (L.getD k 0) ≠ l) : Past L l (k + 1) := ⟨fun j hj => by
  by_cases hb : j < k
  · exact h.no j hb
  · have : j = k := by omega
    subst this; exact hk⟩
theorem getD_get {L : List Int} {k : Nat} (h : k < L.length) : L.getD k 0 = L[k] := by simp [h]
theorem Past.none {l : List UInt8} (h : Past allL l allL.length) : NoName l := ⟨fun e he hl => by
  obtain ⟨j, hj, hje⟩ := List.mem_iff_getElem.1 (all_nm he)
  have := h.no j hj
  rw [getD_get hj, hje] at this
  exact this hl⟩
theorem getD_all {k : Nat} (h : k < allL.length) : nm (allL.getD k 0) ≠ [] := by
  rw [getD_get h]; exact nm_all (List.getElem_mem h)

set_option maxHeartbeats 3200000 in
set_option maxRecDepth 20000 in
theorem refRead_any (s : ByteArray) (w : World) : Calls Tryd.prog 14 #[.string s] w fun e w' => (∃ n b, e = .returned (.tuple #[.int .i64 n, .bool b]) ∧ RdE s.data.toList n b) ∧ Grew w w' := by
  have hlen : allL.length ≤ 1000 := by have := uptoT_len 14; simp only [allL]; omega
  have hpos : 0 < allL.length := by
    have : (0 : Int) ∈ allL := mem_all.2 (.inl (by decide))
    exact List.length_pos_of_mem this
  have hnn := fun k => getD_all (k := k)
  have hend := fun l => Past.none (l := l)
  have ha := fun w => all_eq w
  generalize allL = L at *
  go_enter Tryd.func14, Tryd.ntmps14
  go_wp2_with fail
  go_at_call 22
  refine (ha _).mono ?_
  rintro e w1 ⟨v, rfl, hrow, hX⟩
  obtain ⟨g, cap, rfl, hcell⟩ : ∃ g cap, v = .slice (some ⟨g, 0, none⟩) L.length cap ∧ ∀ k, k < L.length → w1.cell? ⟨g, k, none⟩ = some (.int .i64 (L.getD k 0)) := by
    rcases hrow.2 with hn | ⟨g, cap, cur, hv, hb, hg, rest⟩
    · omega
    · refine ⟨g, cap, hv, fun k hk => ?_⟩
      rw [hv] at hrow
      rw [hrow.cellAt k (by omega), List.getElem?_map, List.getElem?_eq_getElem hk, Option.map_some, getD_get hk]
  clear hrow ha
  go_wp2_with fail
  go_loopw [5] (fun i wr => ∃ k : Nat, k ≤ L.length ∧ i = .int .i64 k ∧ Past L s.data.toList k ∧ Grew w1 wr) (fun i _ => (L.length - intOf i).toNat)
  case atStart => exact ⟨0, by omega, rfl, ⟨fun j hj => by omega⟩, Ext.refl _ _⟩
  case round =>
    obtain ⟨k, hk, rfl, hpast, hX2⟩ := hrel
    by_cases hkl : k < L.length
    · have hkl' : (k : Int) < L.length := by omega
      have hc1 := hcell k hkl
      have hc2 := (hX2.cell (World.block_lt_of_cell? _ _ hc1) (fun h => h)).trans hc1
      have hne := hnn k hkl
      have hst := hpast.step
      generalize hek : L.getD k 0 = ek at *
      clear hcell hc1 hnn
      go_wp2_with fail
      go_at_call 16
      refine (refName_any ek wr).mono ?_
      rintro e w3 ⟨rfl, hX3⟩
      have hX23 := hX2.trans hX3
      have hc3 := (hX3.cell (World.block_lt_of_cell? _ _ hc2) (fun h => h)).trans hc2
      by_cases heq : nm ek = s.data.toList
      · have hq : (nm ek == s.toList) = true := by rw [beq_iff_eq, ByteArray.toList_eq]; exact heq
        clear hst hend
        go_wp2_with fail
        refine bodyPost_ret ?_ rfl ⟨⟨ek, true, rfl, .hit ek heq hne⟩, hX.trans hX23⟩
        simp [results, Tryd.results14, go_sem]
      · have hq : (nm ek == s.toList) = false := by rw [beq_eq_false_iff_ne, ByteArray.toList_eq]; exact heq
        have hst' := hst heq
        clear hst hend heq
        go_wp2_with fail
        go_roundw
        case rel => exact ⟨k + 1, by omega, by go_num, by simpa using hst', hX23⟩
        case measure => simp [intOf]; omega
    · have hke : k = L.length := by omega
      subst hke
      have hm := hend _ hpast
      clear hcell hnn hend
      go_wp2_with fail
      refine bodyPost_ret ?_ rfl ⟨⟨0, false, rfl, .miss hm⟩, hX.trans hX2⟩
      simp [results, Tryd.results14, go_sem]

theorem read_all (s : ByteArray) (hs : s.size ≤ 100) (w : World) (h : Full w) : Calls Tryd.prog 13 #[.string s] w fun e w' => (∃ n b, e = .returned (.tuple #[.int .i64 n, .bool b]) ∧ RdE s.data.toList n b) ∧ Grew w w' := by
  by_cases hx : ∃ e, nm e ≠ [] ∧ nm e = s.data.toList
  · obtain ⟨e, hn, he⟩ := hx
    have hse : s = ⟨(nm e).toArray⟩ := by rw [he]
    have := read_any e hn w h.toLain
    rw [← hse] at this
    exact this.mono fun _ _ ⟨h1, h2⟩ => ⟨⟨e, true, h1, .hit e he hn⟩, h2⟩
  · have hno : NoName s.data.toList := ⟨fun e hn he => hx ⟨e, hn, he⟩⟩
    exact (read_none s hs hno w h).mono fun _ _ ⟨h1, h2⟩ => ⟨⟨0, false, h1, .miss hno⟩, h2⟩
end Go.Proofs.YtfdgflpkdidooaaDoor
