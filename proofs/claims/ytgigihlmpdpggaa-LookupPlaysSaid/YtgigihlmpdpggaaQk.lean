import Derived.Test.YtgigihlmpdpggaaQj
namespace Go.Proofs.Ytgigihlmpdpggaa
open Go.RowKit
set_option maxHeartbeats 1000000 in
set_option maxRecDepth 100000 in
theorem same_texts (A B : Option Addr) (c d n : Nat) (ss : List ByteArray) (w : World) (hn : n ≤ 16777216) (hl : ss.length = n) (hA : TextsAt w A ss) (hB : TextsAt w B ss) :
    Calls Try.prog 40 #[.slice A n c, .slice B n d] w fun e w' => e = .returned (.bool true) ∧ Below w.heap.size w w' := by
  have HA := Lib.hid hA
  have HB := Lib.hid hB
  have HL := Lib.hid hl
  clear hA hB hl
  go_enter Try.func40, Try.ntmps40
  go_wp2
  go_loopw [5] (fun i wr => ∃ (k q : Nat), i = .int .i64 k ∧ k ≤ n ∧ wr = w.drewN q) (fun i _ => n - (intOf i).toNat)
  case atStart => exact ⟨0, 0, rfl, by omega, rfl⟩
  case round =>
    obtain ⟨k, q0, rfl, hk, rfl⟩ := hrel
    by_cases hk2 : k < n
    · obtain ⟨x, hx⟩ : ∃ x, ss[k]? = some x := ⟨_, List.getElem?_eq_getElem (by rw [HL.out]; exact hk2)⟩
      obtain ⟨g, o, rfl, _, hga⟩ : ∃ g o, A = some ⟨g, o, none⟩ ∧ g < w.heap.size ∧ ∀ i s, ss[i]? = some s → w.cell? ⟨g, o + i, none⟩ = some (.string s) := by
        rcases HA.out with e | h
        · rw [e] at hx; simp at hx
        · exact h
      obtain ⟨h, q, rfl, _, hgb⟩ : ∃ g o, B = some ⟨g, o, none⟩ ∧ g < w.heap.size ∧ ∀ i s, ss[i]? = some s → w.cell? ⟨g, o + i, none⟩ = some (.string s) := by
        rcases HB.out with e | h
        · rw [e] at hx; simp at hx
        · exact h
      have a0 := hga k x hx
      have b0 := hgb k x hx
      clear hx hga hgb
      go_wp2
      go_quiet (fail)
      go_wp2
      go_roundw
      case rel => exact ⟨k + 1, _, by go_num, by omega, rfl⟩
      case measure => simp [intOf]; omega
    · have hk3 : n ≤ k := by omega
      go_wp2
      go_ret
      exact ⟨rfl, below_drewN (Below.refl _ _) _⟩
/-- A list of places, wherever it lies. -/
def PlacesAt (w : World) (A : Option Addr) (xs : List It) : Prop := xs = [] ∨ ∃ g o, A = some ⟨g, o, none⟩ ∧ g < w.heap.size ∧ ∀ i x, xs[i]? = some x → PlaceAt w g (o + i * 5) x
theorem PlacesAt.below {w w' : World} {A : Option Addr} {xs : List It} (h : PlacesAt w A xs) (hb : Below w.heap.size w w') : PlacesAt w' A xs := by
  rcases h with h | ⟨g, o, h1, h2, h3⟩
  · exact .inl h
  · exact .inr ⟨g, o, h1, Nat.lt_of_lt_of_le h2 hb.size, fun i x hx => (h3 i x hx).block (hb.block g h2)⟩
theorem places_of {w : World} {B n c : Nat} {A : Option Addr} {xs : List It} (h : w.ownsRow B 30 5 (.slice A n c) n (pflat xs)) : PlacesAt w A xs := by
  rcases h.2 with ⟨e, h0⟩ | ⟨g, cap, cur, e, hg, hb, hn, hc, hsz, htk⟩
  · left
    have := h.1
    rw [pflat_length] at this
    exact List.eq_nil_of_length_eq_zero (by omega)
  · injection e with e1 _ _
    subst e1
    refine .inr ⟨g, 0, rfl, (Array.getElem?_eq_some_iff.1 hb).1, fun i x hx => ?_⟩
    have hcell : ∀ m (hm : m < 5) u, x.pcells[m]? = some u → w.cell? ⟨g, 0 + i * 5 + m, none⟩ = some u := fun m hm u hu => by
      rw [Nat.zero_add, cell_of_row w g _ _ _ (0, 0) hb]
      have h1 := pget xs i m x hx hm
      rw [← htk, List.getElem?_take, hu] at h1
      split at h1
      · simpa using h1
      · cases h1
    exact ⟨hcell 0 (by omega) _ rfl, hcell 1 (by omega) _ rfl, hcell 2 (by omega) _ rfl, hcell 3 (by omega) _ rfl, hcell 4 (by omega) _ rfl⟩
set_option maxHeartbeats 1000000 in
set_option maxRecDepth 100000 in
theorem same_places (A B : Option Addr) (c d n : Nat) (xs : List It) (w : World) (hn : n ≤ 16777216) (hl : xs.length = n) (hA : PlacesAt w A xs) (hB : PlacesAt w B xs) :
    Calls Try.prog 38 #[.slice A n c, .slice B n d] w fun e w' => e = .returned (.bool true) ∧ Below w.heap.size w w' := by
  have HA := Lib.hid hA
  have HB := Lib.hid hB
  have HL := Lib.hid hl
  clear hA hB hl
  go_enter Try.func38, Try.ntmps38
  go_wp2
  go_loopw [5] (fun i wr => ∃ (k q : Nat), i = .int .i64 k ∧ k ≤ n ∧ wr = w.drewN q) (fun i _ => n - (intOf i).toNat)
  case atStart => exact ⟨0, 0, rfl, by omega, rfl⟩
  case round =>
    obtain ⟨k, q0, rfl, hk, rfl⟩ := hrel
    by_cases hk2 : k < n
    · obtain ⟨x, hx⟩ : ∃ x, xs[k]? = some x := ⟨_, List.getElem?_eq_getElem (by rw [HL.out]; exact hk2)⟩
      obtain ⟨g, o, rfl, _, hga⟩ : ∃ g o, A = some ⟨g, o, none⟩ ∧ g < w.heap.size ∧ ∀ i x, xs[i]? = some x → PlaceAt w g (o + i * 5) x := by
        rcases HA.out with e | h
        · rw [e] at hx; simp at hx
        · exact h
      obtain ⟨h, q, rfl, _, hgb⟩ : ∃ g o, B = some ⟨g, o, none⟩ ∧ g < w.heap.size ∧ ∀ i x, xs[i]? = some x → PlaceAt w g (o + i * 5) x := by
        rcases HB.out with e | h
        · rw [e] at hx; simp at hx
        · exact h
      obtain ⟨a0, a1, a2, a3, a4⟩ := hga k x hx
      obtain ⟨b0, b1, b2, b3, b4⟩ := hgb k x hx
      clear hx hga hgb
      go_wp2
      go_quiet (fail)
      go_wp2
      go_roundw
      case rel => exact ⟨k + 1, _, by go_num, by omega, rfl⟩
      case measure => simp [intOf]; omega
    · have hk3 : n ≤ k := by omega
      go_wp2
      go_ret
      exact ⟨rfl, below_drewN (Below.refl _ _) _⟩
set_option maxHeartbeats 1000000 in
set_option maxRecDepth 100000 in
theorem same_items (A B : Option Addr) (c d n : Nat) (xs : List It) (w : World) (hn : n ≤ 16777216) (hl : xs.length = n) (hA : ItemsAt w A xs) (hB : ItemsAt w B xs) :
    Calls Try.prog 9 #[.slice A n c, .slice B n d] w fun e w' => e = .returned (.bool true) ∧ Below w.heap.size w w' := by
  have HA := Lib.hid hA
  have HB := Lib.hid hB
  have HL := Lib.hid hl
  clear hA hB hl
  go_enter Try.func9, Try.ntmps9
  go_wp2
  go_loopw [5] (fun i wr => ∃ (k q : Nat), i = .int .i64 k ∧ k ≤ n ∧ wr = w.drewN q) (fun i _ => n - (intOf i).toNat)
  case atStart => exact ⟨0, 0, rfl, by omega, rfl⟩
  case round =>
    obtain ⟨k, q0, rfl, hk, rfl⟩ := hrel
    by_cases hk2 : k < n
    · obtain ⟨x, hx⟩ : ∃ x, xs[k]? = some x := ⟨_, List.getElem?_eq_getElem (by rw [HL.out]; exact hk2)⟩
      obtain ⟨g, o, rfl, _, hga⟩ : ∃ g o, A = some ⟨g, o, none⟩ ∧ g < w.heap.size ∧ ∀ i x, xs[i]? = some x → CellsAt w g (o + i * 6) x := by
        rcases HA.out with e | h
        · rw [e] at hx; simp at hx
        · exact h
      obtain ⟨h, q, rfl, _, hgb⟩ : ∃ g o, B = some ⟨g, o, none⟩ ∧ g < w.heap.size ∧ ∀ i x, xs[i]? = some x → CellsAt w g (o + i * 6) x := by
        rcases HB.out with e | h
        · rw [e] at hx; simp at hx
        · exact h
      obtain ⟨a0, a1, a2, a3, a4, a5⟩ := hga k x hx
      obtain ⟨b0, b1, b2, b3, b4, b5⟩ := hgb k x hx
      clear hx hga hgb
      go_wp2
      go_quiet (fail)
      go_wp2
      go_roundw
      case rel => exact ⟨k + 1, _, by go_num, by omega, rfl⟩
      case measure => simp [intOf]; omega
    · have hk3 : n ≤ k := by omega
      go_wp2
      go_ret
      exact ⟨rfl, below_drewN (Below.refl _ _) _⟩
end Go.Proofs.Ytgigihlmpdpggaa
