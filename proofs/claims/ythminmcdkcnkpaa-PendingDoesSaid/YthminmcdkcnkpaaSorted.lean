/- The sort's world; what is sorted by turn is the order of opening. -/
import Derived.Test.YthminmcdkcnkpaaCmp
import Derived.Test.YthminmcdkcnkpaaList
import Derived.Shelf.SlSortCmp.Insertion
import Derived.Shelf.SlSortCmp.Kit1
namespace Go.Proofs.Ythminmcdkcnkpaa
open Go.RowKit Go.Maps Go.Sort Go.Proofs

def encU (u : UInt32) : Value := .int .u32 u.toNat
def toU (x : Int) : UInt32 := UInt32.ofNat x.toNat
theorem encU_toU {x : Int} (h : 0 ≤ x ∧ x < 4294967296) : encU (toU x) = .int .u32 x := by
  have : (UInt32.ofNat x.toNat).toNat = x.toNat := by
    rw [UInt32.toNat_ofNat']
    omega
  simp only [encU, toU, this]
  congr 1
  omega
theorem u_range (u : UInt32) : (0 : Int) ≤ (u.toNat : Int) ∧ (u.toNat : Int) < 4294967296 := by
  have := u.toNat_lt
  omega

theorem heap_sw {w : World} {g n : Nat} {os : Array Obj} {cur : Array Value} {e : TypeId} {fr : Nat × Nat} (d : Array UInt32) (hb : w.heap[g]? = some (.cells cur e fr)) :
    (sortWorld encU w g 0 n d os).heap[g]? = some (.cells (putCells encU 0 d cur) e fr) := by
  have hg : g < w.heap.size := (Array.getElem?_eq_some_iff.1 hb).1
  unfold sortWorld
  rw [heap_grow_old _ _ (by simpa using hg)]
  simp [putRow, mapBlock, Sort.ahead, Array.getElem?_modify, hb, onCells]
theorem ext_sw {w : World} {g n : Nat} {os : Array Obj} (d : Array UInt32) : Ext (fun k => k = g) w (sortWorld encU w g 0 n d os) := by
  refine ⟨rfl, rfl, rfl, by simp [sortWorld], fun k hk hne => ?_⟩
  unfold sortWorld
  rw [heap_grow_old _ _ (by simpa using hk)]
  have : g ≠ k := fun e => hne e.symm
  simp [putRow, mapBlock, Sort.ahead, Array.getElem?_modify, this]
theorem take_put (cur : Array Value) (ts : List UInt32) (h : ts.length ≤ cur.size) : (putCells encU 0 ts.toArray cur).toList.take ts.length = ts.map encU := by
  apply List.ext_getElem?
  intro j
  by_cases hj : j < ts.length
  · rw [List.getElem?_take_of_lt hj, Array.getElem?_toList]
    simp [putCells, hj, show j < cur.size by omega]
  · rw [List.getElem?_take_eq_none (by omega), List.getElem?_eq_none (by simp; omega)]
theorem holds_u {w : World} {g : Nat} {cur : Array Value} {e : TypeId} {ss : List UInt32} (hb : w.heap[g]? = some (.cells cur e (0, 0))) (ht : cur.toList.take ss.length = ss.map encU) : Holds encU w g 0 ss.toArray := by
  intro j hj
  have hj' : j < ss.length := by simpa using hj
  refine ⟨?_, by simp [World.frozen?, hb]⟩
  have h1 : (cur.toList.take ss.length)[j]? = (ss.map encU)[j]? := by rw [ht]
  rw [List.getElem?_take_of_lt hj'] at h1
  simp only [World.cell?, hb, Nat.zero_add]
  simp only [Option.isSome_none, Bool.false_eq_true, if_false]
  rw [← Array.getElem?_toList, h1]
  simp [hj']

/-- The comparison of List. -/
def cfU (L : List En) (a b : UInt32) : Int := cmpI (valAt L a.toNat).2 (valAt L b.toNat).2
theorem lt_cf (L : List En) (a b : UInt32) : ltOf (cfU L) a b = decide ((valAt L a.toNat).2 < (valAt L b.toNat).2) := by
  unfold ltOf cfU cmpI
  by_cases h1 : (valAt L a.toNat).2 < (valAt L b.toNat).2
  · simp [h1]
  · by_cases h2 : (valAt L b.toNat).2 < (valAt L a.toNat).2 <;> simp [h1, h2]
theorem swo_cf (L : List En) : SWO (ltOf (cfU L)) where
  irrefl x := by rw [lt_cf]; simp
  trans x y z h1 h2 := by rw [lt_cf] at *; simp at *; omega
  ntrans x y z h1 h2 := by rw [lt_cf] at *; simp at *; omega

/-- The entries stand in the order of their turns. -/
def Ord (L : List En) : Prop := L.Pairwise fun a b => a.2.2 < b.2.2

theorem ord_keys {L : List En} (hn : (keys L).Nodup) (hO : Ord L) {l : List Int} (hp : l.Perm (keys L)) (hs : l.Pairwise fun a b => ¬ (valAt L b).2 < (valAt L a).2) : l = keys L := by
  refine List.Perm.eq_of_pairwise (le := fun a b => ¬ (valAt L b).2 < (valAt L a).2) (fun a b ha hb h1 h2 => ?_) hs ?_ hp
  · obtain ⟨x, hx, rfl⟩ := mem_keys.1 (hp.subset ha)
    obtain ⟨y, hy, rfl⟩ := mem_keys.1 hb
    rw [val_mem hn hx rfl, val_mem hn hy rfl] at h1 h2
    have he : x.2.2 = y.2.2 := by omega
    obtain ⟨i, hi, rfl⟩ := List.getElem_of_mem hx
    obtain ⟨j, hj, rfl⟩ := List.getElem_of_mem hy
    have hP := List.pairwise_iff_getElem.1 hO
    rcases Nat.lt_trichotomy i j with h | h | h
    · have := hP i j hi hj h; omega
    · subst h; rfl
    · have := hP j i hj hi h; omega
  · unfold keys
    refine List.pairwise_map.2 (hO.imp_of_mem fun {a b} ha hb hab => ?_)
    rw [val_mem hn ha rfl, val_mem hn hb rfl]
    omega
end Go.Proofs.Ythminmcdkcnkpaa
