import Derived.Test.YtgigihlmpdpggaaLkR
namespace Go.Proofs.Ytgigihlmpdpggaa
open Go.RowKit
theorem Row.lenV {w : World} {v : Value} {xs : List It} (h : Row w v xs) : ∃ A c, v = .slice A xs.length c := by
  rcases h.2 with ⟨rfl, h1⟩ | ⟨_, _, _, rfl, _⟩
  · exact ⟨_, _, by rw [h1]⟩
  · exact ⟨_, _, rfl⟩
theorem two_items {w : World} {v u : Value} {xs : List It} (hv : Row w v xs) (hu : Row w u xs) {i : Nat} {x : It} (hx : xs[i]? = some x) :
    ∃ g h c d, v = .slice (some ⟨g, 0, none⟩) xs.length c ∧ u = .slice (some ⟨h, 0, none⟩) xs.length d ∧ CellsAt w g (i * 6) x ∧ CellsAt w h (i * 6) x := by
  have hne : xs ≠ [] := by intro e; subst e; simp at hx
  obtain ⟨c, ⟨_, e⟩ | ⟨g, hg, ho, _⟩⟩ := hv.form'
  · exact absurd e hne
  · obtain ⟨d, ⟨_, e⟩ | ⟨h, hh, ho2, _⟩⟩ := hu.form'
    · exact absurd e hne
    · exact ⟨g, h, c, d, hg, hh, hv.at_ ho hx, hu.at_ ho2 hx⟩
set_option maxHeartbeats 1000000 in
set_option maxRecDepth 100000 in
theorem same_eq (v u : Value) (xs : List It) (w : World) (hn : xs.length ≤ 16777216) (hv : Row w v xs) (hu : Row w u xs) :
    Calls Try.prog 9 #[v, u] w fun e w' => e = .returned (.bool true) ∧ Below w.heap.size w w' := by
  obtain ⟨A, c, hA⟩ := hv.lenV
  obtain ⟨B, d, hB⟩ := hu.lenV
  have HV := Lib.hid hv
  have HU := Lib.hid hu
  clear hv hu
  subst hA hB
  go_enter Try.func9, Try.ntmps9
  go_wp2
  go_loopw [5] (fun i wr => ∃ (k n : Nat), i = .int .i64 k ∧ k ≤ xs.length ∧ wr = w.drewN n) (fun i _ => xs.length - (intOf i).toNat)
  case atStart => exact ⟨0, 0, rfl, by omega, rfl⟩
  case round =>
    obtain ⟨k, n, rfl, hk, rfl⟩ := hrel
    by_cases hk2 : k < xs.length
    · obtain ⟨x, hx⟩ : ∃ x, xs[k]? = some x := ⟨_, List.getElem?_eq_getElem hk2⟩
      obtain ⟨g, h, c', d', e1, e2, hx1, hx2⟩ := two_items HV.out HU.out hx
      cases e1
      cases e2
      obtain ⟨a0, a1, a2, a3, a4, a5⟩ := hx1
      obtain ⟨b0, b1, b2, b3, b4, b5⟩ := hx2
      clear hx
      go_wp2
      go_quiet (fail)
      go_wp2
      go_roundw
      case rel => exact ⟨k + 1, _, by go_num, by omega, rfl⟩
      case measure => simp [intOf]; omega
    · have hk3 : k = xs.length := by omega
      subst hk3
      go_wp2
      go_ret
      exact ⟨rfl, below_drewN (Below.refl _ _) _⟩
end Go.Proofs.Ytgigihlmpdpggaa
