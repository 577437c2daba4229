import Derived.Test.YtgigihlmpdpggaaQl
namespace Go.Proofs.Ytgigihlmpdpggaa
open Go.RowKit
/-- Texts in order, each once. -/
def RisS (l : List ByteArray) : Prop := l.Pairwise fun x y => cmpS x y < 0
theorem bytesLess_cmp (x y : ByteArray) : (Op.bytesLess x.toList y.toList = true) ↔ cmpS x y < 0 := by
  rw [← cmpS_less]; simp
theorem mem_pins (y : ByteArray) (l : List ByteArray) (x : ByteArray) : x ∈ pins y l ↔ x = y ∨ x ∈ l := by
  unfold pins
  split
  · rename_i h
    cases ha : l[pinsAt y l]? with
    | none => rw [ha] at h; simp at h
    | some a =>
      rw [ha] at h
      have h0 : a.toList = y.toList := by simpa using h
      obtain rfl := toList_inj h0
      have hm := List.mem_of_getElem? ha
      constructor
      · exact .inr
      · rintro (rfl | h)
        · exact hm
        · exact h
  · rw [List.mem_append, List.mem_cons]
    have := List.take_append_drop (pinsAt y l) l
    have hm : x ∈ l ↔ x ∈ l.take (pinsAt y l) ∨ x ∈ l.drop (pinsAt y l) := by rw [← List.mem_append, this]
    rw [hm]
    constructor
    · rintro (h | h | h)
      · exact .inr (.inl h)
      · exact .inl h
      · exact .inr (.inr h)
    · rintro (h | h | h)
      · exact .inr (.inl h)
      · exact .inl h
      · exact .inr (.inr h)
theorem pins_rising (y : ByteArray) (l : List ByteArray) (hl : RisS l) : RisS (pins y l) := by
  unfold pins
  split
  · exact hl
  · rename_i hno
    have hlo := pinsAt_lo y l
    have h0 : ∀ a, l[pinsAt y l]? = some a → cmpS y a < 0 := by
      intro a ha
      have h1 := pinsAt_stop y l a ha
      have h2 : ¬ cmpS a y < 0 := fun h => by rw [(bytesLess_cmp a y).2 h] at h1; cases h1
      have h3 : ¬ cmpS a y = 0 := fun e => hno (by rw [ha, cmpS_zero e]; simp)
      have := cmpS_pre.anti a y
      omega
    have hhi' : ∀ i x, pinsAt y l ≤ i → l[i]? = some x → cmpS y x < 0 := by
      intro i x hi hx
      by_cases he : i = pinsAt y l
      · subst he; exact h0 x hx
      · have hil : i < l.length := (List.getElem?_eq_some_iff.1 hx).1
        have hpl : pinsAt y l < l.length := by omega
        obtain ⟨a, ha⟩ : ∃ a, l[pinsAt y l]? = some a := ⟨_, List.getElem?_eq_getElem hpl⟩
        have hax : cmpS a x < 0 := by
          have := List.pairwise_iff_getElem.1 hl (pinsAt y l) i hpl hil (by omega)
          rw [List.getElem?_eq_getElem hpl] at ha
          rw [List.getElem?_eq_getElem hil] at hx
          cases ha; cases hx
          exact this
        exact cmpS_pre.trans y a x (h0 a ha) hax
    unfold RisS at *
    rw [List.pairwise_append]
    refine ⟨hl.sublist (List.take_sublist _ _), ?_, ?_⟩
    · rw [List.pairwise_cons]
      refine ⟨fun x hx => ?_, hl.sublist (List.drop_sublist _ _)⟩
      obtain ⟨k, hk⟩ := List.mem_iff_getElem?.1 hx
      rw [List.getElem?_drop] at hk
      exact hhi' _ x (by omega) hk
    · intro a ha b hb
      obtain ⟨k, hk⟩ := List.mem_iff_getElem?.1 ha
      rw [List.getElem?_take] at hk
      split at hk
      · rename_i hkl
        have hay := (bytesLess_cmp a y).1 (hlo k a hkl hk)
        rcases List.mem_cons.1 hb with rfl | hb
        · exact hay
        · obtain ⟨k', hk'⟩ := List.mem_iff_getElem?.1 hb
          rw [List.getElem?_drop] at hk'
          exact cmpS_pre.trans a y b hay (hhi' _ b (by omega) hk')
      · cases hk
theorem risS_ext : ∀ {l m : List ByteArray}, RisS l → RisS m → (∀ x, x ∈ l ↔ x ∈ m) → l = m
  | [], [], _, _, _ => rfl
  | [], b :: m, _, _, h => absurd ((h b).2 (List.mem_cons_self)) (by simp)
  | a :: l, [], _, _, h => absurd ((h a).1 (List.mem_cons_self)) (by simp)
  | a :: l, b :: m, hl, hm, h => by
    obtain ⟨hl1, hl2⟩ := List.pairwise_cons.1 hl
    obtain ⟨hm1, hm2⟩ := List.pairwise_cons.1 hm
    have hab : a = b := by
      rcases List.mem_cons.1 ((h a).1 List.mem_cons_self) with e | e
      · exact e
      · rcases List.mem_cons.1 ((h b).2 List.mem_cons_self) with e2 | e2
        · exact e2.symm
        · have h1 := hm1 a e
          have h2 := hl1 b e2
          have := cmpS_pre.anti a b
          omega
    subst hab
    have hno : ∀ {k : List ByteArray}, (∀ y ∈ k, cmpS a y < 0) → a ∉ k := fun hk ha => by have := hk a ha; have := cmpS_self a; omega
    rw [risS_ext hl2 hm2 fun x => ?_]
    have := h x
    simp only [List.mem_cons] at this
    constructor
    · intro hx
      rcases this.1 (.inr hx) with rfl | hx2
      · exact absurd hx (hno hl1)
      · exact hx2
    · intro hx
      rcases this.2 (.inr hx) with rfl | hx2
      · exact absurd hx (hno hm1)
      · exact hx2
theorem rpacks_fold (l : List It) : ∀ out : List ByteArray, RisS out → RisS (l.foldl (fun out x => pins x.pack out) out) ∧ ∀ s, s ∈ l.foldl (fun out x => pins x.pack out) out ↔ s ∈ out ∨ ∃ x ∈ l, x.pack = s := by
  induction l with
  | nil => intro out h; exact ⟨h, fun s => by simp⟩
  | cons x l ih =>
    intro out h
    obtain ⟨h1, h2⟩ := ih (pins x.pack out) (pins_rising x.pack out h)
    refine ⟨h1, fun s => ?_⟩
    rw [List.foldl_cons, h2 s, mem_pins]
    simp only [List.mem_cons, exists_eq_or_imp]
    constructor
    · rintro ((h | h) | h)
      · exact .inr (.inl h.symm)
      · exact .inl h
      · exact .inr (.inr h)
    · rintro (h | h | h)
      · exact .inl (.inr h)
      · exact .inl (.inl h.symm)
      · exact .inr h
theorem compactUpTo_of {d : Array (List UInt8)} (m : Nat) : ∀ z ∈ Lib.compactUpTo d m, ∃ j, j < m ∧ d[j]! = z := by
  intro z hz
  simp only [Lib.compactUpTo, List.mem_map, List.mem_filter, List.mem_range] at hz
  obtain ⟨j, ⟨h1, _⟩, h2⟩ := hz
  exact ⟨j, h1, h2⟩
theorem compactUpTo_rising {d : Array (List UInt8)} (hs : ∀ i j, i ≤ j → j < d.size → d[i]! ≤ d[j]!) (m : Nat) (hm : m ≤ d.size) : (Lib.compactUpTo d m).Pairwise fun x y => x < y := by
  induction m with
  | zero => exact List.Pairwise.nil
  | succ m ih =>
    rw [Lib.compactUpTo_succ, List.pairwise_append]
    refine ⟨ih (by omega), ?_, ?_⟩
    · split
      · exact List.pairwise_singleton _ _
      · exact List.Pairwise.nil
    · intro a ha b hb
      split at hb
      · rename_i hk
        simp at hb
        subst hb
        obtain ⟨j, hj, rfl⟩ := compactUpTo_of m a ha
        have h1 := hs j (m - 1) (by omega) (by omega)
        have h2 := hs (m - 1) m (by omega) (by omega)
        have h3 : d[m]! ≠ d[m - 1]! := by
          have : m = 0 ∨ d[m]! ≠ d[m - 1]! := by simpa [Lib.keeps] using hk
          exact this.resolve_left (by omega)
        have h4 : d[j]! ≤ d[m]! := List.le_trans h1 h2
        refine Classical.byContradiction fun h5 => ?_
        have h6 : d[j]! = d[m]! := List.le_antisymm h4 (List.not_lt.1 h5)
        exact h3 (List.le_antisymm (by rw [← h6]; exact h1) h2)
      · cases hb
theorem packsOf_mem (L : List (List It)) (z : List UInt8) : z ∈ packsOf L ↔ ∃ x ∈ L.flatten, x.pack.data.toList = z := by
  constructor
  · intro h
    obtain ⟨j, hj, he⟩ := compactUpTo_of _ z h
    rw [getElem!_pos _ j (by simpa using hj)] at he
    have hm : z ∈ (L.flatten.map fun x => x.pack.data.toList).mergeSort fun x y => decide (x ≤ y) := by
      rw [← he]
      exact List.getElem_mem _
    rw [List.mem_mergeSort, List.mem_map] at hm
    exact hm
  · rintro ⟨x, hx, rfl⟩
    exact mem_packsOf hx
theorem packsOf_rising (L : List (List It)) : (packsOf L).Pairwise fun x y => x < y := by
  unfold packsOf Lib.compact
  refine compactUpTo_rising (fun i j hij hj => ?_) _ (by simp)
  generalize hz : ((L.flatten.map fun x => x.pack.data.toList).mergeSort fun x y => decide (x ≤ y)) = zs at *
  have hp : zs.Pairwise fun x y => decide (x ≤ y) = true := by
    rw [← hz]
    exact List.pairwise_mergeSort (fun a b c h1 h2 => by simp only [decide_eq_true_eq] at *; exact List.le_trans h1 h2) (fun a b => by
      simp only [Bool.or_eq_true, decide_eq_true_eq]
      exact List.le_total a b) _
  have hj' : j < zs.length := by simpa using hj
  rw [getElem!_pos zs.toArray i (by simp; omega), getElem!_pos zs.toArray j (by simp; omega)]
  by_cases e : i = j
  · subst e; exact List.le_refl _
  · have := List.pairwise_iff_getElem.1 hp i j (by omega) hj' (by omega)
    simpa using this
/-- The two ways to the packs come to one list. -/
theorem packs_same (L : List (List It)) : rpacks L.flatten = (packsOf L).map packB := by
  obtain ⟨h1, h2⟩ := rpacks_fold L.flatten [] List.Pairwise.nil
  refine risS_ext h1 ?_ fun s => ?_
  · unfold RisS
    rw [List.pairwise_map]
    refine (packsOf_rising L).imp fun {a b} hab => ?_
    rw [cmpS_eq, Lib.toList_data, Lib.toList_data]
    unfold cmpL
    rw [if_pos (by simpa [packB] using hab)]
    omega
  · refine (h2 s).trans ?_
    simp only [List.not_mem_nil, false_or, List.mem_map]
    constructor
    · rintro ⟨x, hx, rfl⟩
      exact ⟨_, (packsOf_mem L _).2 ⟨x, hx, rfl⟩, by simp [packB]⟩
    · rintro ⟨z, hz, rfl⟩
      obtain ⟨x, hx, rfl⟩ := (packsOf_mem L z).1 hz
      exact ⟨x, hx, by simp [packB]⟩
theorem packs_strs (L : List (List It)) : (packsOf L).map encStr = strs (rpacks L.flatten) := by
  rw [packs_same, strs, List.map_map]
  exact List.map_congr_left fun z _ => by simp [encStr, packB]
/-- The items of an id are those of its list. -/
theorem hits_flat {L : List (List It)} {S : It → Prop} (h : Fine L S) (s : ByteArray) {xs : List It} (hx : L[slot s]? = some xs) : hits s xs = L.flatten.filter (hasId s) := by
  rw [hits_eq s xs (h.rise _ xs hx)]
  refine rising_ext ((h.rise _ xs hx).sublist List.filter_sublist) (h.flat_rising.sublist List.filter_sublist) fun x => ?_
  rw [List.mem_filter, List.mem_filter, h.flat_mem, h.mem _ xs hx]
  constructor
  · rintro ⟨⟨h1, _⟩, h2⟩; exact ⟨h1, h2⟩
  · rintro ⟨h1, h2⟩
    have : x.id = s := toList_inj (by simpa [hasId] using h2)
    exact ⟨⟨h1, by rw [this]⟩, h2⟩
theorem mem_insAll (ys : List It) : ∀ (l : List It) (x : It), x ∈ insAll l ys ↔ x ∈ ys ∨ x ∈ l := by
  induction ys with
  | nil => intro l x; simp [insAll]
  | cons y ys ih =>
    intro l x
    have := ih (ins y l) x
    simp only [insAll, List.foldl_cons, List.mem_cons] at *
    rw [this, mem_ins]
    constructor
    · rintro (h | h | h)
      · exact .inl (.inr h)
      · exact .inl (.inl h)
      · exact .inr h
    · rintro ((h | h) | h)
      · exact .inr (.inl h)
      · exact .inl h
      · exact .inr (.inr h)
theorem insAll_rising (ys : List It) : ∀ l, Rising l → Rising (insAll l ys) := by
  induction ys with
  | nil => intro l h; exact h
  | cons y ys ih => intro l h; exact ih _ (ins_rising y l h)
theorem add_same {L : List (List It)} {S : It → Prop} (h : Fine L S) (ys : List It) : (ys.foldl addOne L).flatten = insAll L.flatten ys := by
  refine rising_ext (h.addAll ys).flat_rising (insAll_rising ys _ h.flat_rising) fun x => ?_
  rw [(h.addAll ys).flat_mem, mem_insAll, h.flat_mem]
theorem drop_same (L : List (List It)) (p : ByteArray) : (L.map (·.filter (keeps p))).flatten = L.flatten.filter (keeps p) := by
  rw [List.filter_flatten]
theorem gone_same (L : List (List It)) (p : ByteArray) (h : L.length = 256) : goneTo p 256 L = gone p L.flatten := by
  have := goneTo_all p L h
  rw [drop_same] at this
  unfold gone
  omega
end Go.Proofs.Ytgigihlmpdpggaa
