import Derived.Test.YtgigihlmpdpggaaLkB
namespace Go.Proofs.Ytgigihlmpdpggaa
/-- A comparison by three ways that is an order of classes. -/
structure PreCmp {α : Type} (c : α → α → Int) : Prop where
  anti : ∀ x y, c y x = - c x y
  trans : ∀ x y z, c x y < 0 → c y z < 0 → c x z < 0
  congr : ∀ x y z, c x y = 0 → c x z = c y z
def thenC {α : Type} (c d : α → α → Int) : α → α → Int := fun x y => if c x y = 0 then d x y else c x y
theorem PreCmp.then_ {α : Type} {c d : α → α → Int} (hc : PreCmp c) (hd : PreCmp d) : PreCmp (thenC c d) where
  anti x y := by
    have := hc.anti x y
    have := hd.anti x y
    unfold thenC
    split <;> split <;> omega
  trans x y z := by
    have a1 := hc.trans x y z
    have a2 := hd.trans x y z
    have a3 := hc.congr x y z
    have a4 := hc.congr z y x
    have a5 := hc.anti y z
    have a6 := hc.anti x z
    have a7 := hc.anti x y
    unfold thenC
    split <;> split <;> split <;> omega
  congr x y z := by
    have a1 := hc.congr x y z
    have a2 := hd.congr x y z
    unfold thenC
    split <;> rename_i h
    · intro h2
      rw [a1 h, a2 h2]
    · intro h2
      exact absurd h2 h
theorem cmpI_pre : PreCmp cmpI where
  anti x y := by unfold cmpI; split <;> split <;> (try split) <;> omega
  trans x y z := by unfold cmpI; repeat' split <;> omega
  congr x y z := by unfold cmpI; repeat' split <;> omega
theorem PreCmp.on {α β : Type} {c : β → β → Int} (h : PreCmp c) (f : α → β) : PreCmp (fun x y => c (f x) (f y)) :=
  ⟨fun _ _ => h.anti _ _, fun _ _ _ => h.trans _ _ _, fun _ _ _ => h.congr _ _ _⟩
def cmpL (x y : List UInt8) : Int := if x < y then -1 else if y < x then 1 else 0
theorem cmpL_pre : PreCmp cmpL where
  anti x y := by
    unfold cmpL
    by_cases h : x < y
    · have : ¬ y < x := fun h' => List.lt_irrefl x (List.lt_trans h h')
      simp [h, this]
    · by_cases h' : y < x <;> simp [h, h']
  trans x y z := by
    unfold cmpL
    intro h1 h2
    have a : x < y := by
      by_cases h : x < y
      · exact h
      · rw [if_neg h] at h1; split at h1 <;> omega
    have b : y < z := by
      by_cases h : y < z
      · exact h
      · rw [if_neg h] at h2; split at h2 <;> omega
    rw [if_pos (List.lt_trans a b)]
    omega
  congr x y z := by
    intro h
    have e : x = y := by
      unfold cmpL at h
      by_cases h1 : x < y
      · rw [if_pos h1] at h; omega
      · by_cases h2 : y < x
        · rw [if_neg h1, if_pos h2] at h; omega
        · exact List.le_antisymm (List.not_lt.1 h2) (List.not_lt.1 h1)
    rw [e]
theorem cmpL_zero (x y : List UInt8) (h : cmpL x y = 0) : x = y := by
  unfold cmpL at h
  by_cases h1 : x < y
  · rw [if_pos h1] at h; omega
  · by_cases h2 : y < x
    · rw [if_neg h1, if_pos h2] at h; omega
    · exact List.le_antisymm (List.not_lt.1 h2) (List.not_lt.1 h1)
theorem bytesLess_dec : ∀ x y : List UInt8, Op.bytesLess x y = decide (x < y)
  | [], [] => by simp [Op.bytesLess]
  | _ :: _, [] => by simp [Op.bytesLess]
  | [], _ :: _ => by simp [Op.bytesLess]
  | a :: x, b :: y => by
    have ih := bytesLess_dec x y
    have e : (a :: x < b :: y) ↔ (a < b ∨ a = b ∧ x < y) := List.cons_lt_cons_iff
    rw [Op.bytesLess, ih]
    by_cases h1 : a < b
    · simp [e, h1]
    · by_cases h2 : a = b <;> simp [e, h1, h2]
theorem cmpS_eq (x y : ByteArray) : cmpS x y = cmpL x.toList y.toList := by
  unfold cmpS cmpL
  rw [bytesLess_dec]
  by_cases h : x.toList < y.toList
  · simp [h]
  · by_cases h2 : y.toList < x.toList
    · have : x.toList ≠ y.toList := fun e => by rw [e] at h2; exact List.lt_irrefl _ h2
      simp [h, h2, this]
    · have : x.toList = y.toList := List.le_antisymm (List.not_lt.1 h2) (List.not_lt.1 h)
      have hy : ¬ y.toList < y.toList := List.lt_irrefl _
      simp [this, hy]
theorem cmpS_pre : PreCmp cmpS := by
  have := cmpL_pre.on ByteArray.toList
  have e : cmpS = fun x y => cmpL (ByteArray.toList x) (ByteArray.toList y) := by funext x y; exact cmpS_eq x y
  rw [e]
  exact this
theorem toList_inj {x y : ByteArray} (h : x.toList = y.toList) : x = y := by
  rw [Lib.toList_data, Lib.toList_data] at h
  rw [← Lib.mk_data x, ← Lib.mk_data y, h]
theorem cmpS_zero {x y : ByteArray} (h : cmpS x y = 0) : x = y := toList_inj (cmpL_zero _ _ (by rw [← cmpS_eq]; exact h))
theorem cmpI_zero {x y : Int} (h : cmpI x y = 0) : x = y := by unfold cmpI at h; split at h <;> (try split at h) <;> omega
theorem ord_eq (x y : It) : x.ord y = thenC (fun a b => cmpS a.id b.id) (thenC (fun a b => cmpS a.pack b.pack) (thenC (fun a b => cmpI a.off b.off) (thenC (fun a b => cmpI a.long b.long) (thenC (fun a b => cmpI a.size b.size) (fun a b => cmpI a.kind b.kind))))) x y := by
  simp only [It.ord, It.cmps, orI, thenC]
  repeat' split
  all_goals first | rfl | omega
theorem ord_pre : PreCmp It.ord := by
  have e : It.ord = thenC (fun a b => cmpS a.id b.id) (thenC (fun a b => cmpS a.pack b.pack) (thenC (fun a b => cmpI a.off b.off) (thenC (fun a b => cmpI a.long b.long) (thenC (fun a b => cmpI a.size b.size) (fun a b => cmpI a.kind b.kind))))) := by
    funext x y; exact ord_eq x y
  rw [e]
  exact (cmpS_pre.on It.id).then_ ((cmpS_pre.on It.pack).then_ ((cmpI_pre.on It.off).then_ ((cmpI_pre.on It.long).then_ ((cmpI_pre.on It.size).then_ (cmpI_pre.on It.kind)))))
theorem orI_zero {l : List Int} (h : orI l = 0) : ∀ z ∈ l, z = 0 := by
  induction l with
  | nil => simp
  | cons a l ih =>
    simp only [orI] at h
    split at h
    · rename_i h0
      intro z hz
      rcases List.mem_cons.1 hz with rfl | hz
      · exact h0
      · exact ih h z hz
    · rename_i h0; exact absurd h h0
theorem ord_zero {x y : It} (h : x.ord y = 0) : x = y := by
  have hz := orI_zero h
  simp only [It.cmps, List.mem_cons, List.not_mem_nil, or_false, forall_eq_or_imp, forall_eq] at hz
  obtain ⟨h1, h2, h3, h4, h5, h6⟩ := hz
  cases x; cases y
  simp only at *
  rw [cmpS_zero h1, cmpS_zero h2, cmpI_zero h3, cmpI_zero h4, cmpI_zero h5, cmpI_zero h6]
theorem ord_self (x : It) : x.ord x = 0 := by have := ord_pre.anti x x; omega
end Go.Proofs.Ytgigihlmpdpggaa
