import Derived.Test.YtgigihlmpdpggaaPl
import Derived.Test.YtgigihlmpdpggaaLkPa
namespace Go.Proofs.Ytgigihlmpdpggaa
open Go.RowKit
theorem rep_size (n : Int) : (rep n).size = 32 := by simp [rep, ByteArray.size]
theorem is32_rep (n : Int) : is32 (rep n) = true := by simp [is32, rep_size]
theorem item_ok (i p o : Int) : (itemOf i p o).ok = true := by
  have h := am_range o 100 (by omega)
  simp [It.ok, itemOf, is32_rep, withinB, h.1]
  omega
/-- Two tables that share no block, both above B. -/
structure Two (B : Nat) (w0 w : World) (a b : Nat) (Va Vb : List Value) (La Lb : List (List It)) : Prop where
  ta : Tab w a Va La
  tb : Tab w b Vb Lb
  sep : ∀ g, Own a Va g → ¬ Own b Vb g
  hia : ∀ g, Own a Va g → B ≤ g
  hib : ∀ g, Own b Vb g → B ≤ g
  low : Below B w0 w
theorem Two.le {B : Nat} {w0 w : World} {a b : Nat} {Va Vb : List Value} {La Lb : List (List It)} (h : Two B w0 w a b Va Vb La Lb) : B ≤ w.heap.size :=
  Nat.le_of_lt (Nat.lt_of_le_of_lt (h.hia a (.inl rfl)) h.ta.lt)
theorem Two.below {B : Nat} {w0 w w' : World} {a b : Nat} {Va Vb : List Value} {La Lb : List (List It)} (h : Two B w0 w a b Va Vb La Lb) (hb : Below w.heap.size w w') : Two B w0 w' a b Va Vb La Lb :=
  ⟨h.ta.kept fun g hg => hb.block g (h.ta.own_lt hg), h.tb.kept fun g hg => hb.block g (h.tb.own_lt hg), h.sep, h.hia, h.hib, h.low.trans (hb.mono h.le)⟩
theorem But.low {S : Nat → Prop} {B : Nat} {w0 w w' : World} (h : But S w w') (hl : Below B w0 w) (hB : B ≤ w.heap.size) (hs : ∀ g, S g → B ≤ g) : Below B w0 w' :=
  hl.trans (h.below hB fun k hk hk2 => by have := hs k hk2; omega)
theorem Two.setA {B : Nat} {w0 w w' : World} {a b : Nat} {Va Vb Va' : List Value} {La Lb La' : List (List It)} (h : Two B w0 w a b Va Vb La Lb) (ht : Tab w' a Va' La') (hbut : But (Own a Va) w w')
    (hown : ∀ g, Own a Va' g → Own a Va g ∨ w.heap.size ≤ g) : Two B w0 w' a b Va' Vb La' Lb := by
  refine ⟨ht, h.tb.but hbut fun g hg hg2 => h.sep g hg2 hg, ?_, ?_, h.hib, hbut.low h.low h.le h.hia⟩
  · intro g hg hg2
    rcases hown g hg with h1 | h1
    · exact h.sep g h1 hg2
    · have := h.tb.own_lt hg2; omega
  · intro g hg
    rcases hown g hg with h1 | h1
    · exact h.hia g h1
    · have := h.le; omega
theorem Two.swap {B : Nat} {w0 w : World} {a b : Nat} {Va Vb : List Value} {La Lb : List (List It)} (h : Two B w0 w a b Va Vb La Lb) : Two B w0 w b a Vb Va Lb La :=
  ⟨h.tb, h.ta, fun g hg hg2 => h.sep g hg2 hg, h.hib, h.hia, h.low⟩
def AddedA (B : Nat) (w0 : World) (a b : Nat) (Vb : List Value) (La Lb : List (List It)) (e : Ending) (w' : World) : Prop :=
  e = .returned (.int .i64 0) ∧ ∃ Va, Two B w0 w' a b Va Vb La Lb
theorem flat_le {L : List (List It)} {c : Nat} (h : ∀ xs ∈ L, xs.length ≤ c) (hl : L.length = 256) : L.flatten.length ≤ 256 * c := by
  have : ∀ (M : List (List It)), (∀ xs ∈ M, xs.length ≤ c) → M.flatten.length ≤ M.length * c := by
    intro M
    induction M with
    | nil => intro _; simp
    | cons xs M ih =>
      intro hM
      have h1 := hM xs List.mem_cons_self
      have h2 := ih fun ys hy => hM ys (List.mem_cons_of_mem _ hy)
      simp only [List.flatten_cons, List.length_append, List.length_cons, Nat.add_mul, Nat.one_mul]
      omega
  have := this L h
  rw [hl] at this
  exact this
/-- What a list of items that were added comes to. -/
def tabOf (ys : List It) : List (List It) := ys.foldl addOne emptyL
theorem tabOf_fine (ys : List It) : Fine (tabOf ys) (fun x => x ∈ ys) := (Fine.empty.addAll ys).iff fun x => by simp
theorem tabOf_len (ys : List It) : ∀ xs ∈ tabOf ys, xs.length ≤ ys.length := by
  intro xs hx
  obtain ⟨i, hi⟩ := List.getElem?_of_mem hx
  have := (addAll_inv ys emptyL 0 (fun i xs h => by rw [emptyL_at h]; exact ⟨List.Pairwise.nil, by simp⟩) i xs hi).2
  omega
theorem tabOf_append (ys zs : List It) : zs.foldl addOne (tabOf ys) = tabOf (ys ++ zs) := by simp [tabOf, List.foldl_append]
theorem tabOf_ext {ys zs : List It} (h : ∀ x, x ∈ ys ↔ x ∈ zs) : tabOf ys = tabOf zs := (tabOf_fine ys).ext (tabOf_fine zs) h
theorem tabOf_nil : tabOf [] = emptyL := rfl
/-- The second table's items, after k rounds. -/
def seqB (it : Nat → It) (n : Nat) : Nat → List It
  | 0 => []
  | k + 1 => seqB it n k ++ [it (n - 1 - k), it k]
theorem seqB_length (it : Nat → It) (n k : Nat) : (seqB it n k).length = 2 * k := by
  induction k with
  | zero => rfl
  | succ k ih => simp [seqB, ih]; omega
theorem seqB_has (it : Nat → It) (n k i : Nat) (h : i < k) : it i ∈ seqB it n k := by
  induction k with
  | zero => omega
  | succ k ih =>
    simp only [seqB, List.mem_append]
    by_cases e : i = k
    · subst e; exact .inr (by simp)
    · exact .inl (ih (by omega))
theorem seqB_of (it : Nat → It) (n k : Nat) (hk : k ≤ n) (x : It) (h : x ∈ seqB it n k) : ∃ i, i < n ∧ x = it i := by
  induction k with
  | zero => simp [seqB] at h
  | succ k ih =>
    simp only [seqB, List.mem_append, List.mem_cons, List.not_mem_nil, or_false] at h
    rcases h with h | h | h
    · exact ih (by omega) h
    · exact ⟨_, by omega, h⟩
    · exact ⟨_, by omega, h⟩
/-- The first table's, after k rounds. -/
def seqA (it : Nat → It) (k : Nat) : List It := (List.range k).map it
theorem seqA_succ (it : Nat → It) (k : Nat) : seqA it (k + 1) = seqA it k ++ [it k] := by simp [seqA, List.range_succ]
theorem seqA_length (it : Nat → It) (k : Nat) : (seqA it k).length = k := by simp [seqA]
theorem seq_same (it : Nat → It) (n : Nat) : tabOf (seqA it n) = tabOf (seqB it n n) := by
  refine tabOf_ext fun x => ?_
  simp only [seqA, List.mem_map, List.mem_range]
  constructor
  · rintro ⟨i, hi, rfl⟩
    exact seqB_has it n n i hi
  · intro h
    obtain ⟨i, hi, rfl⟩ := seqB_of it n n (Nat.le_refl _) x h
    exact ⟨i, hi, rfl⟩
/-- The first place of an id that is there is one behind which no item of that id is. -/
theorem first_hit {L : List (List It)} {S : It → Prop} (h : Fine L S) {z : It} (hz : S z) : ∃ xs y ys, L[slot z.id]? = some xs ∧ hits z.id xs = y :: ys ∧ y.id = z.id ∧ lessB z y = false := by
  obtain ⟨xs, hx⟩ := h.at_ z.id
  have hr := h.rise _ xs hx
  have hm := (h.mem _ xs hx z).2 ⟨hz, rfl⟩
  have he := hits_eq z.id xs hr
  have hz2 : z ∈ hits z.id xs := by rw [he, List.mem_filter]; exact ⟨hm, by simp⟩
  have hr2 : Rising (hits z.id xs) := by rw [he]; exact hr.sublist List.filter_sublist
  cases hh : hits z.id xs with
  | nil => rw [hh] at hz2; cases hz2
  | cons y ys =>
    rw [hh] at hz2 hr2
    have hy : y ∈ hits z.id xs := by rw [hh]; exact List.mem_cons_self
    rw [he, List.mem_filter] at hy
    have hid : y.id.toList = z.id.toList := by simpa using hy.2
    refine ⟨xs, y, ys, hx, hh, toList_inj hid, ?_⟩
    have h1 : ¬ z.ord y < 0 := by
      rcases List.mem_cons.1 hz2 with rfl | h1
      · have := ord_self z; omega
      · have := (List.pairwise_cons.1 hr2).1 z h1
        have := ord_pre.anti y z
        omega
    simp [lessB, h1]
theorem next_less {l : List It} (h : Rising l) {k : Nat} {x y : It} (hx : l[k]? = some x) (hy : l[k + 1]? = some y) : lessB x y = true := by
  obtain ⟨h1, h2⟩ := List.getElem?_eq_some_iff.1 hx
  obtain ⟨h3, h4⟩ := List.getElem?_eq_some_iff.1 hy
  have := List.pairwise_iff_getElem.1 h k (k + 1) h1 h3 (by omega)
  rw [h2, h4] at this
  simp [lessB, this]
/-- What stays once packs are dropped. -/
def packB (l : List UInt8) : ByteArray := ⟨l.toArray⟩
def dropAll (ps : List (List UInt8)) (L : List (List It)) : List (List It) := ps.foldl (fun L p => L.map (·.filter (keeps (packB p)))) L
theorem dropAll_fine {L : List (List It)} {S : It → Prop} (h : Fine L S) (ps : List (List UInt8)) : Fine (dropAll ps L) (fun x => S x ∧ ∀ p ∈ ps, keeps (packB p) x = true) := by
  induction ps generalizing L S with
  | nil => exact h.iff fun x => by simp
  | cons p ps ih =>
    refine (ih (h.filter (packB p))).iff fun x => ?_
    simp only [List.mem_cons, forall_eq_or_imp, and_assoc]
theorem dropAll_snoc (ps : List (List UInt8)) (p : List UInt8) (L : List (List It)) : dropAll (ps ++ [p]) L = (dropAll ps L).map (·.filter (keeps (packB p))) := by
  simp [dropAll, List.foldl_append]
theorem gone_flat (p : ByteArray) (L : List (List It)) : ((L.map (gone p)).sum) + (L.map (·.filter (keeps p))).flatten.length = L.flatten.length := by
  induction L with
  | nil => rfl
  | cons xs L ih =>
    have h1 : (xs.filter (keeps p)).length ≤ xs.length := List.length_filter_le _ _
    have h2 : gone p xs + (xs.filter (keeps p)).length = xs.length := by unfold gone; omega
    simp only [List.map_cons, List.sum_cons, List.flatten_cons, List.length_append]
    omega
theorem goneTo_all (p : ByteArray) (L : List (List It)) (h : L.length = 256) : goneTo p 256 L + (L.map (·.filter (keeps p))).flatten.length = L.flatten.length := by
  have := gone_flat p L
  unfold goneTo
  rw [List.take_of_length_le (by omega)]
  exact this
theorem mem_compactUpTo {d : Array (List UInt8)} (m : Nat) : ∀ j, j < m → d[j]! ∈ Lib.compactUpTo d m := by
  induction m with
  | zero => intro j hj; omega
  | succ m ih =>
    intro j hj
    rw [Lib.compactUpTo_succ, List.mem_append]
    by_cases e : j < m
    · exact .inl (ih j e)
    · have : j = m := by omega
      subst this
      by_cases hk : Lib.keeps d j = true
      · rw [if_pos hk]; exact .inr (by simp)
      · have hk' : ¬ (j = 0 ∨ d[j]! ≠ d[j - 1]!) := by simpa [Lib.keeps] using hk
        have h1 : ¬ j = 0 := fun h => hk' (.inl h)
        have h2 : d[j]! = d[j - 1]! := Classical.byContradiction fun h => hk' (.inr h)
        rw [h2]
        exact .inl (ih (j - 1) (by omega))
theorem mem_compact {zs : List (List UInt8)} {z : List UInt8} (h : z ∈ zs) : z ∈ Lib.compact zs := by
  obtain ⟨j, hj⟩ := List.getElem?_of_mem h
  obtain ⟨h1, h2⟩ := List.getElem?_eq_some_iff.1 hj
  have := mem_compactUpTo (d := zs.toArray) zs.length j h1
  have e : zs.toArray[j]! = z := by
    rw [getElem!_pos zs.toArray j (by simpa using h1)]
    simpa using h2
  rw [e] at this
  exact this
theorem mem_packsOf {L : List (List It)} {x : It} (h : x ∈ L.flatten) : x.pack.data.toList ∈ packsOf L := by
  unfold packsOf
  refine mem_compact ?_
  rw [List.mem_mergeSort]
  exact List.mem_map.2 ⟨x, h, rfl⟩
theorem dropAll_none {L : List (List It)} {S : It → Prop} (h : Fine L S) : ∀ xs ∈ dropAll (packsOf L) L, xs = [] := by
  intro xs hx
  obtain ⟨i, hi⟩ := List.getElem?_of_mem hx
  rw [List.eq_nil_iff_forall_not_mem]
  intro x hxx
  have hf := dropAll_fine h (packsOf L)
  obtain ⟨⟨h1, h2⟩, _⟩ := (hf.mem i xs hi x).1 hxx
  have h3 := h2 _ (mem_packsOf ((h.flat_mem x).2 h1))
  have : keeps (packB x.pack.data.toList) x = false := by
    simp [keeps, packB, Lib.toList_data]
  rw [this] at h3
  cases h3
end Go.Proofs.Ytgigihlmpdpggaa
