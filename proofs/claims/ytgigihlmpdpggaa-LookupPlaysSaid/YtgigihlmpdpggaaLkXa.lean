import Derived.Test.YtgigihlmpdpggaaLkW
namespace Go.Proofs.Ytgigihlmpdpggaa
open Go.RowKit
theorem less_self (x : It) : lessB x x = false := by
  have := ord_self x
  simp [lessB, this]
theorem less_both (x y : It) : ¬ (lessB x y = true ∧ lessB y x = true) := by
  have := ord_pre.anti x y
  simp only [lessB, decide_eq_true_eq]
  omega
theorem it_parts {i j p q : ByteArray} {a b c d e f g h : Int} (hh : (⟨i, p, a, b, c, d⟩ : It) = ⟨j, q, e, f, g, h⟩) : i = j ∧ p = q ∧ a = e ∧ b = f ∧ c = g ∧ d = h := by
  injection hh with h1 h2 h3 h4 h5 h6
  exact ⟨h1, h2, h3, h4, h5, h6⟩
theorem less_same (x y : It) (h1 : lessB x y = false) (h2 : lessB y x = false) : x.id = y.id ∧ x.pack = y.pack ∧ x.kind = y.kind ∧ x.off = y.off ∧ x.long = y.long ∧ x.size = y.size := by
  have := ord_pre.anti x y
  simp only [lessB, decide_eq_false_iff_not] at h1 h2
  have := ord_zero (x := x) (y := y) (by omega)
  subst this
  exact ⟨rfl, rfl, rfl, rfl, rfl, rfl⟩
/-- The first field in which two items part. -/
def Parts (x y : It) : Prop := ¬ x.id.toList = y.id.toList ∨ (x.id = y.id ∧ ¬ x.pack.toList = y.pack.toList) ∨ (x.id = y.id ∧ x.pack = y.pack ∧ ¬ x.kind = y.kind) ∨ (x.id = y.id ∧ x.pack = y.pack ∧ x.kind = y.kind ∧ ¬ x.off = y.off) ∨
  (x.id = y.id ∧ x.pack = y.pack ∧ x.kind = y.kind ∧ x.off = y.off ∧ ¬ x.long = y.long) ∨ (x.id = y.id ∧ x.pack = y.pack ∧ x.kind = y.kind ∧ x.off = y.off ∧ x.long = y.long ∧ ¬ x.size = y.size)
theorem parts_of (x y : It) (h : lessB x y ≠ lessB y x) : Parts x y := by
  unfold Parts
  by_cases h1 : x.id.toList = y.id.toList
  · have e1 := toList_inj h1
    by_cases h2 : x.pack.toList = y.pack.toList
    · have e2 := toList_inj h2
      by_cases h3 : x.kind = y.kind
      · by_cases h4 : x.off = y.off
        · by_cases h5 : x.long = y.long
          · by_cases h6 : x.size = y.size
            · exfalso
              obtain ⟨i, p, k, o, l, s⟩ := x
              obtain ⟨i', p', k', o', l', s'⟩ := y
              simp only at e1 e2 h3 h4 h5 h6
              subst e1 e2 h3 h4 h5 h6
              exact h rfl
            · exact .inr (.inr (.inr (.inr (.inr ⟨e1, e2, h3, h4, h5, h6⟩))))
          · exact .inr (.inr (.inr (.inr (.inl ⟨e1, e2, h3, h4, h5⟩))))
        · exact .inr (.inr (.inr (.inl ⟨e1, e2, h3, h4⟩)))
      · exact .inr (.inr (.inl ⟨e1, e2, h3⟩))
    · exact .inr (.inl ⟨e1, h2⟩)
  · exact .inl h1
theorem less_ways (x y : It) : (lessB x y = true ∧ lessB y x = false ∧ Parts x y) ∨ (lessB x y = false ∧ lessB y x = true ∧ Parts x y) ∨ (lessB x y = false ∧ lessB y x = false ∧ x.id = y.id ∧ x.pack = y.pack ∧ x.kind = y.kind ∧ x.off = y.off ∧ x.long = y.long ∧ x.size = y.size) := by
  have h1 := less_both x y
  have h2 := less_same x y
  have h3 := parts_of x y
  cases ha : lessB x y <;> cases hb : lessB y x
  · exact .inr (.inr ⟨rfl, rfl, h2 ha hb⟩)
  · exact .inr (.inl ⟨rfl, rfl, h3 (by rw [ha, hb]; decide)⟩)
  · exact .inl ⟨rfl, rfl, h3 (by rw [ha, hb]; decide)⟩
  · exact absurd ⟨ha, hb⟩ h1
theorem less_trans (x y z : It) (h1 : lessB x y = true) (h2 : lessB y z = true) : lessB x z = true := by
  simp only [lessB, decide_eq_true_eq] at *
  exact ord_pre.trans x y z h1 h2
end Go.Proofs.Ytgigihlmpdpggaa
