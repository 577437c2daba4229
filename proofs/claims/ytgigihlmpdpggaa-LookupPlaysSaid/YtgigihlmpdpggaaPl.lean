import Derived.Test.YtgigihlmpdpggaaLkW
namespace Go.Proofs.Ytgigihlmpdpggaa
open Go.RowKit
theorem mem_ins (y : It) (l : List It) (x : It) : x ∈ ins y l ↔ x = y ∨ x ∈ l := by
  unfold ins
  split
  · rename_i h
    cases ha : l[pos y l]? with
    | none => rw [ha] at h; simp at h
    | some a =>
      rw [ha] at h
      have h0 : a.ord y = 0 := by simpa using h
      obtain rfl := ord_zero h0
      have hm := List.mem_of_getElem? ha
      constructor
      · exact .inr
      · rintro (rfl | h)
        · exact hm
        · exact h
  · rw [List.mem_append, List.mem_cons]
    have := List.take_append_drop (pos y l) l
    have hm : x ∈ l ↔ x ∈ l.take (pos y l) ∨ x ∈ l.drop (pos y l) := by rw [← List.mem_append, this]
    rw [hm]
    constructor
    · rintro (h | h | h)
      · exact .inr (.inl h)
      · exact .inl h
      · exact .inr (.inr h)
    · rintro (h | h | h)
      · exact .inr (.inl h)
      · exact .inl h
      · exact .inr (.inr h)
theorem rising_ext : ∀ {l m : List It}, Rising l → Rising m → (∀ x, x ∈ l ↔ x ∈ m) → l = m
  | [], [], _, _, _ => rfl
  | [], b :: m, _, _, h => absurd ((h b).2 (List.mem_cons_self)) (by simp)
  | a :: l, [], _, _, h => absurd ((h a).1 (List.mem_cons_self)) (by simp)
  | a :: l, b :: m, hl, hm, h => by
    obtain ⟨hl1, hl2⟩ := List.pairwise_cons.1 hl
    obtain ⟨hm1, hm2⟩ := List.pairwise_cons.1 hm
    have hab : a = b := by
      rcases List.mem_cons.1 ((h a).1 List.mem_cons_self) with e | e
      · exact e
      · rcases List.mem_cons.1 ((h b).2 List.mem_cons_self) with e2 | e2
        · exact e2.symm
        · have h1 := hm1 a e
          have h2 := hl1 b e2
          have := ord_pre.anti a b
          omega
    subst hab
    have hno : ∀ {k : List It}, (∀ y ∈ k, a.ord y < 0) → a ∉ k := fun hk ha => by have := hk a ha; have := ord_self a; omega
    rw [rising_ext hl2 hm2 fun x => ?_]
    have := h x
    simp only [List.mem_cons] at this
    constructor
    · intro hx
      rcases this.1 (.inr hx) with rfl | hx2
      · exact absurd hx (hno hl1)
      · exact hx2
    · intro hx
      rcases this.2 (.inr hx) with rfl | hx2
      · exact absurd hx (hno hm1)
      · exact hx2
/-- A table's lists hold just the items of a set, each in its list, in order. -/
structure Fine (L : List (List It)) (S : It → Prop) : Prop where
  len : L.length = 256
  rise : ∀ (i : Nat) (xs : List It), L[i]? = some xs → Rising xs
  mem : ∀ (i : Nat) (xs : List It), L[i]? = some xs → ∀ x, x ∈ xs ↔ S x ∧ slot x.id = i
theorem Fine.empty : Fine emptyL (fun _ => False) :=
  ⟨by unfold emptyL; rw [List.length_replicate], fun i xs h => by rw [emptyL_at h]; exact List.Pairwise.nil, fun i xs h x => by rw [emptyL_at h]; simp⟩
theorem addOne_length (L : List (List It)) (y : It) : (addOne L y).length = L.length := by unfold addOne; rw [List.length_modify]
theorem Fine.add {L : List (List It)} {S : It → Prop} (h : Fine L S) (y : It) : Fine (addOne L y) (fun x => x = y ∨ S x) := by
  refine ⟨by rw [addOne_length]; exact h.len, ?_, ?_⟩
  · intro i xs hx
    rcases addOne_get L y i xs hx with ⟨_, zs, hz, rfl⟩ | ⟨_, hz⟩
    · exact ins_rising y zs (h.rise i zs hz)
    · exact h.rise i xs hz
  · intro i xs hx x
    rcases addOne_get L y i xs hx with ⟨hi, zs, hz, rfl⟩ | ⟨hi, hz⟩
    · rw [mem_ins, h.mem i zs hz]
      constructor
      · rintro (rfl | ⟨h1, h2⟩)
        · exact ⟨.inl rfl, hi.symm⟩
        · exact ⟨.inr h1, h2⟩
      · rintro ⟨rfl | h1, h2⟩
        · exact .inl rfl
        · exact .inr ⟨h1, h2⟩
    · rw [h.mem i xs hz]
      constructor
      · rintro ⟨h1, h2⟩
        exact ⟨.inr h1, h2⟩
      · rintro ⟨rfl | h1, h2⟩
        · exact absurd h2.symm hi
        · exact ⟨h1, h2⟩
theorem Fine.iff {L : List (List It)} {S T : It → Prop} (h : Fine L S) (e : ∀ x, S x ↔ T x) : Fine L T := by
  have : S = T := funext fun x => propext (e x)
  rw [← this]
  exact h
theorem Fine.addAll {L : List (List It)} {S : It → Prop} (h : Fine L S) (ys : List It) : Fine (ys.foldl addOne L) (fun x => x ∈ ys ∨ S x) := by
  induction ys generalizing L S with
  | nil => exact h.iff fun x => by simp
  | cons y ys ih =>
    refine (ih (h.add y)).iff fun x => ?_
    simp only [List.mem_cons]
    constructor
    · rintro (h | h | h)
      · exact .inl (.inr h)
      · exact .inl (.inl h)
      · exact .inr h
    · rintro ((h | h) | h)
      · exact .inr (.inl h)
      · exact .inl h
      · exact .inr (.inr h)
theorem Fine.ext {L M : List (List It)} {S T : It → Prop} (h : Fine L S) (k : Fine M T) (e : ∀ x, S x ↔ T x) : L = M := by
  apply List.ext_getElem?
  intro i
  by_cases hi : i < 256
  · have h1 : i < L.length := by rw [h.len]; exact hi
    have h2 : i < M.length := by rw [k.len]; exact hi
    rw [List.getElem?_eq_getElem h1, List.getElem?_eq_getElem h2]
    congr 1
    refine rising_ext (h.rise i _ (List.getElem?_eq_getElem h1)) (k.rise i _ (List.getElem?_eq_getElem h2)) fun x => ?_
    rw [h.mem i _ (List.getElem?_eq_getElem h1), k.mem i _ (List.getElem?_eq_getElem h2), e x]
  · rw [List.getElem?_eq_none (by rw [h.len]; omega), List.getElem?_eq_none (by rw [k.len]; omega)]
theorem Fine.filter {L : List (List It)} {S : It → Prop} (h : Fine L S) (p : ByteArray) : Fine (L.map (·.filter (keeps p))) (fun x => S x ∧ keeps p x = true) := by
  refine ⟨by simpa using h.len, ?_, ?_⟩
  · intro i xs hx
    rw [List.getElem?_map] at hx
    cases hz : L[i]? with
    | none => rw [hz] at hx; cases hx
    | some zs =>
      rw [hz] at hx
      cases hx
      exact (h.rise i zs hz).sublist List.filter_sublist
  · intro i xs hx x
    rw [List.getElem?_map] at hx
    cases hz : L[i]? with
    | none => rw [hz] at hx; cases hx
    | some zs =>
      rw [hz] at hx
      cases hx
      rw [List.mem_filter, h.mem i zs hz]
      constructor
      · rintro ⟨⟨h1, h2⟩, h3⟩; exact ⟨⟨h1, h3⟩, h2⟩
      · rintro ⟨⟨h1, h3⟩, h2⟩; exact ⟨⟨h1, h2⟩, h3⟩
theorem Fine.flat_mem {L : List (List It)} {S : It → Prop} (h : Fine L S) (x : It) : x ∈ L.flatten ↔ S x := by
  rw [List.mem_flatten]
  constructor
  · rintro ⟨l, hl, hx⟩
    obtain ⟨i, hi⟩ := List.getElem?_of_mem hl
    exact ((h.mem i l hi x).1 hx).1
  · intro hs
    have hi : slot x.id < L.length := by rw [h.len]; exact slot_lt _
    exact ⟨_, List.getElem_mem hi, (h.mem _ _ (List.getElem?_eq_getElem hi) x).2 ⟨hs, rfl⟩⟩
theorem slot_less {a b : It} (h : slot a.id < slot b.id) : a.ord b < 0 := by
  have h1 : cmpS a.id b.id < 0 := by
    rw [cmpS_eq, Lib.toList_data, Lib.toList_data]
    have hb : 0 < b.id.size := by
      rcases Nat.eq_zero_or_pos b.id.size with e | e
      · unfold slot at h; rw [dif_neg (show ¬ 0 < b.id.size by omega)] at h; omega
      · exact e
    have hlb : b.id.data.toList ≠ [] := by intro e; have := congrArg List.length e; simp at this; rw [Lib.size_eq] at hb; simp [this] at hb
    have eb : slot b.id = ((b.id.data.toList)[0]'(List.length_pos_iff.2 hlb)).toNat := by
      unfold slot
      rw [dif_pos hb]
      rfl
    have hlt : a.id.data.toList < b.id.data.toList := by
      obtain ⟨y, ys, hy⟩ := List.exists_cons_of_ne_nil hlb
      cases hx : a.id.data.toList with
      | nil => rw [hy]; exact List.Lex.nil
      | cons x xs =>
        have ha : 0 < a.id.size := by rw [Lib.size_eq, hx]; simp
        have ea : slot a.id = x.toNat := by
          unfold slot
          rw [dif_pos ha]
          show ((a.id.data.toList)[0]'(by rw [hx]; simp)).toNat = _
          simp [hx]
        simp only [hy, List.getElem_cons_zero] at eb
        rw [hy]
        refine List.Lex.rel ?_
        rw [UInt8.lt_iff_toNat_lt]
        omega
    unfold cmpL
    rw [if_pos hlt]
    omega
  rw [ord_eq]
  simp only [thenC]
  rw [if_neg (by omega)]
  exact h1
theorem pairwise_flatten_of {L : List (List It)} (h1 : ∀ xs ∈ L, Rising xs) (h2 : L.Pairwise fun xs ys => ∀ x ∈ xs, ∀ y ∈ ys, x.ord y < 0) : Rising L.flatten :=
  List.pairwise_flatten.2 ⟨h1, h2⟩
theorem Fine.flat_rising {L : List (List It)} {S : It → Prop} (h : Fine L S) : Rising L.flatten := by
  refine pairwise_flatten_of ?_ ?_
  · intro xs hx
    obtain ⟨i, hi⟩ := List.getElem?_of_mem hx
    exact h.rise i xs hi
  · rw [List.pairwise_iff_getElem]
    intro i j hi hj hij x hx y hy
    have e1 := ((h.mem i _ (List.getElem?_eq_getElem hi) x).1 hx).2
    have e2 := ((h.mem j _ (List.getElem?_eq_getElem hj) y).1 hy).2
    exact slot_less (by omega)
theorem Fine.at_ {L : List (List It)} {S : It → Prop} (h : Fine L S) (s : ByteArray) : ∃ xs, L[slot s]? = some xs :=
  ⟨_, List.getElem?_eq_getElem (by rw [h.len]; exact slot_lt s)⟩
/-- The items of an id that the list has: all of them. -/
theorem hits_eq (s : ByteArray) (l : List It) (hl : Rising l) : hits s l = l.filter fun x => x.id.toList == s.toList := by
  unfold hits
  have hd : l = l.take (posS s l) ++ l.drop (posS s l) := (List.take_append_drop _ _).symm
  have hlo := posS_lo s l
  have hhi := posS_hi s l hl
  have h1 : (l.take (posS s l)).filter (fun x => x.id.toList == s.toList) = [] := by
    rw [List.filter_eq_nil_iff]
    intro a ha
    obtain ⟨k, hk⟩ := List.getElem?_of_mem ha
    rw [List.getElem?_take] at hk
    split at hk
    · have := hlo k a (by assumption) hk
      intro e
      have e2 : a.id.toList = s.toList := by simpa using e
      rw [toList_inj e2] at this
      have := cmpS_pre.anti s s
      omega
    · cases hk
  have h2 : ∀ (m : List It), Rising m → (∀ x ∈ m, 0 ≤ cmpS x.id s) → m.takeWhile (fun x => x.id.toList == s.toList) = m.filter (fun x => x.id.toList == s.toList) := by
    intro m
    induction m with
    | nil => intros; rfl
    | cons a m ih =>
      intro hr hm
      obtain ⟨hr1, hr2⟩ := List.pairwise_cons.1 hr
      by_cases ha : (a.id.toList == s.toList) = true
      · rw [List.takeWhile_cons_of_pos (p := fun x : It => x.id.toList == s.toList) ha, List.filter_cons_of_pos (p := fun x : It => x.id.toList == s.toList) ha, ih hr2 fun x hx => hm x (List.mem_cons_of_mem _ hx)]
      · rw [List.takeWhile_cons_of_neg (p := fun x : It => x.id.toList == s.toList) ha, List.filter_cons_of_neg (p := fun x : It => x.id.toList == s.toList) ha, eq_comm, List.filter_eq_nil_iff]
        intro x hx e
        have e2 : x.id.toList = s.toList := by simpa using e
        have e3 := toList_inj e2
        have h3 := ord_id (hr1 x hx)
        have h4 := hm a List.mem_cons_self
        have h5 := cmpS_pre.anti a.id x.id
        rw [e3] at h3 h5
        have h6 : cmpS a.id s = 0 := by omega
        exact ha (by rw [cmpS_zero h6]; simp)
  rw [h2 _ (hl.sublist (List.drop_sublist _ _)) (fun x hx => by
    obtain ⟨k, hk⟩ := List.getElem?_of_mem hx
    rw [List.getElem?_drop] at hk
    exact hhi _ x (by omega) hk)]
  conv => rhs; rw [hd, List.filter_append, h1, List.nil_append]
end Go.Proofs.Ytgigihlmpdpggaa
