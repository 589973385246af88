/- The table's map, as a list in the order of opening. -/
import Derived.Maps.Views
import Derived.Maps.OwnSet
namespace Go.Proofs.Ythminmcdkcnkpaa
open Go.Maps

/-- Who waits: its number, its kind, its turn. -/
abbrev En := Int × Int × Int
abbrev Dt := DataW Unit
def keys (L : List En) : List Int := L.map (·.1)
abbrev ky (x : Int) : Lit := .int .u32 x
def wd (e : En) : Dt := .agg [.lit (.int .i64 e.2.1), .lit (.int .i64 e.2.2)]
def one (_ : En) : Dt := .lit (.int .i64 1)

theorem ky_is (x : Int) : WideAt.IsKeyLit (ky x) := trivial
theorem ky_ne {x y : Int} (h : x ≠ y) : ky x ≠ ky y := fun e => h (by injection e)

/-- The map D has just the entries of L. -/
structure Mp (f : En → Dt) (D : Dt) (L : List En) : Prop where
  tidy : Tidy D
  hs : ∀ x, has D (ky x) = decide (x ∈ keys L)
  val : ∀ e ∈ L, ∀ z, D.atKey (ky e.1) z = f e
  size : size D = L.length
  nd : (keys L).Nodup

theorem Mp.empty (f : En → Dt) : Mp f (.map []) [] := ⟨tidy_empty, fun _ => rfl, fun _ h => (by cases h), rfl, List.nodup_nil⟩

theorem mem_keys {L : List En} {x : Int} : x ∈ keys L ↔ ∃ e ∈ L, e.1 = x := by simp [keys]

theorem Mp.put {f : En → Dt} {D : Dt} {L : List En} (h : Mp f D L) {e : En} (hx : e.1 ∉ keys L) : Mp f (D.put (ky e.1) (f e)) (L ++ [e]) := by
  refine ⟨h.tidy.put (ky_is _) _, fun x => ?_, fun e' he z => ?_, ?_, ?_⟩
  · by_cases hxe : x = e.1
    · subst hxe
      rw [has_put_same h.tidy.isMap (ky_is _)]
      simp [keys]
    · rw [has_put_other (ky_ne hxe), h.hs]
      have : x ∈ keys (L ++ [e]) ↔ x ∈ keys L := by
        simp only [keys, List.map_append, List.mem_append, List.map_cons, List.map_nil, List.mem_singleton]
        exact ⟨fun h => h.resolve_right hxe, .inl⟩
      simp only [this]
  · rcases List.mem_append.1 he with he | he
    · have hne : e'.1 ≠ e.1 := fun e1 => hx (e1 ▸ mem_keys.2 ⟨e', he, rfl⟩)
      rw [atKey_put_other (ky_ne hne), h.val e' he]
    · obtain rfl : e' = e := by simpa using he
      rw [atKey_put_same h.tidy.isMap (ky_is _)]
  · rw [size_put h.tidy, h.hs]
    simp [hx, h.size]
  · have := h.nd
    simp only [keys, List.map_append, List.map_cons, List.map_nil] at this ⊢ hx
    rw [List.nodup_append]
    exact ⟨this, by simp, fun a ha b hb e1 => by simp at hb; subst hb; exact hx (e1 ▸ ha)⟩

def strike (L : List En) (x : Int) : List En := L.filter fun e => decide (e.1 ≠ x)

theorem mem_strike {L : List En} {x : Int} {e : En} : e ∈ strike L x ↔ e ∈ L ∧ e.1 ≠ x := by simp [strike]
theorem keys_strike {L : List En} {x y : Int} : y ∈ keys (strike L x) ↔ y ∈ keys L ∧ y ≠ x := by
  rw [mem_keys, mem_keys]
  constructor
  · rintro ⟨e, he, rfl⟩; exact ⟨⟨e, (mem_strike.1 he).1, rfl⟩, (mem_strike.1 he).2⟩
  · rintro ⟨⟨e, he, rfl⟩, hne⟩; exact ⟨e, mem_strike.2 ⟨he, hne⟩, rfl⟩
theorem strike_none {L : List En} {x : Int} (h : x ∉ keys L) : strike L x = L := by
  rw [strike, List.filter_eq_self]
  intro e he
  simp only [decide_eq_true_eq]
  exact fun e1 => h (e1 ▸ mem_keys.2 ⟨e, he, rfl⟩)
theorem len_strike : ∀ {L : List En} {x : Int}, (keys L).Nodup → x ∈ keys L → (strike L x).length + 1 = L.length
  | [], _, _, h => by cases h
  | e :: L, x, hn, h => by
    simp only [keys, List.map_cons, List.nodup_cons] at hn
    by_cases hx : e.1 = x
    · have : strike (e :: L) x = strike L x := by simp [strike, hx]
      rw [this, strike_none (by rw [← hx]; exact hn.1)]
      rfl
    · have : strike (e :: L) x = e :: strike L x := by simp [strike, hx]
      rw [this]
      have h' : x ∈ keys L := by
        rcases List.mem_cons.1 h with h | h
        · exact absurd h.symm hx
        · exact h
      simp [len_strike hn.2 h']
theorem Mp.del {f : En → Dt} {D : Dt} {L : List En} (h : Mp f D L) (x : Int) : Mp f (D.del (ky x)) (strike L x) := by
  refine ⟨h.tidy.del _, fun y => ?_, fun e he z => ?_, ?_, ?_⟩
  · by_cases hy : y = x
    · subst hy
      rw [has_del_same]
      simp [keys_strike]
    · rw [has_del_other (ky_ne hy), h.hs]
      simp [keys_strike, hy]
  · obtain ⟨he, hne⟩ := mem_strike.1 he
    rw [atKey_del_other (ky_ne hne), h.val e he]
  · have h1 := size_del (k := ky x) h.tidy
    rw [h.hs] at h1
    by_cases hx : x ∈ keys L
    · have := len_strike h.nd hx
      simp [hx] at h1
      have := h.size
      omega
    · simp [hx] at h1
      rw [strike_none hx, ← h.size, h1]
  · exact (List.filter_sublist.map _).nodup h.nd
theorem Mp.miss {f : En → Dt} {D : Dt} {L : List En} (h : Mp f D L) {x : Int} (hx : x ∉ keys L) (z : Dt) : D.atKey (ky x) z = z :=
  atKey_of_not_has (by rw [h.hs]; simp [hx]) z

/-! ### the next number -/
def step (x : Int) : Int := (x + 1) % 4294967296
def free (K : List Int) (x : Int) : Bool := decide (x ≠ 0) && !decide (x ∈ K)
def dist (K : List Int) : Nat → Int → Nat
  | 0, _ => 0
  | f + 1, x => if free K (step x) then 0 else dist K f (step x) + 1
theorem dist_more {K : List Int} : ∀ {f : Nat} {x : Int}, dist K f x < f → dist K (f + 1) x = dist K f x
  | 0, _, h => by omega
  | f + 1, x, h => by
    show (if free K (step x) then 0 else dist K (f + 1) (step x) + 1) = (if free K (step x) then 0 else dist K f (step x) + 1)
    replace h : (if free K (step x) then 0 else dist K f (step x) + 1) < f + 1 := h
    split
    · rfl
    · rename_i hf
      rw [if_neg hf] at h
      have := dist_more (K := K) (f := f) (x := step x) (by omega)
      omega
/-- A number that is free stands within so many steps. -/
theorem dist_none {K : List Int} : ∀ {f : Nat} {x : Int}, dist K f x = f → ∀ i, 1 ≤ i → i ≤ f → free K ((x + i) % 4294967296) = false
  | 0, _, _, i, h1, h2 => by omega
  | f + 1, x, h, i, h1, h2 => by
    rw [dist] at h
    split at h
    · omega
    · rename_i hf
      by_cases hi : i = 1
      · subst hi
        simp only [Bool.not_eq_true] at hf
        exact hf
      · have := dist_none (K := K) (f := f) (x := step x) (by omega) (i - 1) (by omega) (by omega)
        rw [← this]
        congr 1
        simp only [step]
        omega
theorem nodup_le : ∀ {l m : List Int}, l.Nodup → (∀ x ∈ l, x ∈ m) → l.length ≤ m.length
  | [], _, _, _ => by simp
  | a :: l, m, hn, hs => by
    rw [List.nodup_cons] at hn
    have hm : a ∈ m := hs a (by simp)
    have h1 := nodup_le (l := l) (m := m.erase a) hn.2 (fun x hx => by
      have hne : x ≠ a := fun e => hn.1 (e ▸ hx)
      exact (List.mem_erase_of_ne hne).2 (hs x (by simp [hx])))
    rw [List.length_erase_of_mem hm] at h1
    have := List.length_pos_of_mem hm
    simp
    omega
theorem dist_le : ∀ {K : List Int} {f : Nat} {x : Int}, dist K f x ≤ f
  | _, 0, _ => by simp [dist]
  | K, f + 1, x => by
    rw [dist]
    split
    · omega
    · have := dist_le (K := K) (f := f) (x := step x)
      omega
theorem dist_lt {K : List Int} {f : Nat} {x : Int} (hk : K.length + 1 < f) (hf : f < 4294967296) : dist K f x < f := by
  refine Decidable.byContradiction fun hn => ?_
  have he : dist K f x = f := by have := dist_le (K := K) (f := f) (x := x); omega
  have hnone := dist_none he
  have := nodup_le (l := (List.range f).map fun i => (x + ((i + 1 : Nat) : Int)) % 4294967296) (m := 0 :: K) ?_ ?_
  · simp at this
    omega
  · refine List.pairwise_map.2 (List.nodup_range.imp_of_mem ?_)
    intro a b ha hb hab e
    have ha := List.mem_range.1 ha
    have hb := List.mem_range.1 hb
    omega
  · intro y hy
    obtain ⟨i, hi, rfl⟩ := List.mem_map.1 hy
    have hi := List.mem_range.1 hi
    have := hnone (i + 1) (by omega) (by omega)
    simp only [free, Bool.and_eq_false_iff, decide_eq_false_iff_not, Decidable.not_not, Bool.not_eq_false', decide_eq_true_eq] at this
    rcases this with h | h
    · rw [h]; simp
    · exact List.mem_cons_of_mem _ h

/-- The next number that is free. -/
def nx (K : List Int) (x : Int) : Int := (x + (dist K 1000 x + 1 : Nat)) % 4294967296
theorem nx_free {K : List Int} {x : Int} (h : free K (step x) = true) : nx K x = step x := by
  have : dist K 1000 x = 0 := by rw [dist]; simp [h]
  simp only [nx, this, step]
  rfl
theorem nx_step {K : List Int} {x : Int} (hk : K.length < 998) (h : free K (step x) = false) : nx K x = nx K (step x) ∧ dist K 1000 (step x) < dist K 1000 x := by
  have h1 : dist K 1000 x = dist K 999 (step x) + 1 := by rw [dist]; simp [h]
  have h2 : dist K 999 (step x) < 999 := dist_lt (by omega) (by omega)
  have h3 : dist K 1000 (step x) = dist K 999 (step x) := dist_more h2
  refine ⟨?_, by omega⟩
  simp only [nx]
  rw [h3, h1]
  simp only [step]
  omega
theorem nx_ok {K : List Int} : ∀ (n : Nat) (x : Int), K.length < 998 → dist K 1000 x = n → free K (nx K x) = true
  | 0, x, hk, h => by
    cases hf : free K (step x) with
    | true => rw [nx_free hf]; exact hf
    | false => have := (nx_step hk hf).2; omega
  | n + 1, x, hk, h => by
    cases hf : free K (step x) with
    | true => rw [nx_free hf]; exact hf
    | false =>
      have h1 : dist K 1000 x = dist K 999 (step x) + 1 := by rw [dist]; simp [hf]
      have h2 : dist K 999 (step x) < 999 := dist_lt (by omega) (by omega)
      have h3 : dist K 1000 (step x) = dist K 999 (step x) := dist_more h2
      rw [(nx_step hk hf).1]
      exact nx_ok n _ hk (by omega)
theorem nx_range (K : List Int) (x : Int) : 0 ≤ nx K x ∧ nx K x < 4294967296 := by simp only [nx]; omega
theorem step_range (x : Int) : 0 ≤ step x ∧ step x < 4294967296 := by simp only [step]; omega
theorem nx_new {K : List Int} {x : Int} (hk : K.length < 998) : nx K x ≠ 0 ∧ nx K x ∉ K := by
  have := nx_ok _ x hk rfl
  simpa [free] using this
end Go.Proofs.Ythminmcdkcnkpaa
