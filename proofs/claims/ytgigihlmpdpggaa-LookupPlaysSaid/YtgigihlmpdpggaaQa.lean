import Derived.Test.YtgigihlmpdpggaaLkXa
import Derived.Deep.RegionHeld3
namespace Go.Proofs.Ytgigihlmpdpggaa
open Go.RowKit
def knownB (k : Int) : Bool := (k == 1) || (k == 2)
theorem known_any (k : Int) (w : World) : Calls Try.prog 63 #[.int .i64 k] w fun e w' => e = .returned (.bool (knownB k)) ∧ w = w' := by
  by_cases h1 : (k == 1) = true
  · have H : Hid (knownB k = true) := by unfold knownB; rw [h1]; rfl
    go_enter Try.func63, Try.ntmps63
    go_wp2
    go_ret
    exact ⟨by rw [H.out]; rfl, rfl⟩
  · have h1' : (k == 1) = false := by simpa using h1
    have H : Hid (knownB k = (k == 2)) := by unfold knownB; rw [h1']; rfl
    clear h1
    go_enter Try.func63, Try.ntmps63
    go_wp2
    go_ret
    exact ⟨by rw [H.out]; rfl, rfl⟩
def codeOf (x : It) : Int := if x.ok then 0 else 1
theorem code_if (i0 p0 : ByteArray) (k0 o0 l0 s0 : Int) (hk : knownB k0 = true) : codeOf ⟨i0, p0, k0, o0, l0, s0⟩ =
    if (i0.size : Int) = 32 ∧ (p0.size : Int) = 32 ∧ 0 ≤ o0 ∧ o0 ≤ 65536 ∧ 1 ≤ l0 ∧ l0 ≤ 65536 ∧ 0 ≤ s0 ∧ s0 ≤ 65536 then 0 else 1 := by
  unfold knownB at hk
  unfold codeOf
  have e : ((⟨i0, p0, k0, o0, l0, s0⟩ : It).ok = true) ↔ ((i0.size : Int) = 32 ∧ (p0.size : Int) = 32 ∧ 0 ≤ o0 ∧ o0 ≤ 65536 ∧ 1 ≤ l0 ∧ l0 ≤ 65536 ∧ 0 ≤ s0 ∧ s0 ≤ 65536) := by
    simp only [It.ok, is32, withinB, hk, Bool.and_eq_true, decide_eq_true_eq, beq_iff_eq, and_assoc, true_and]
  by_cases h : (i0.size : Int) = 32 ∧ (p0.size : Int) = 32 ∧ 0 ≤ o0 ∧ o0 ≤ 65536 ∧ 1 ≤ l0 ∧ l0 ≤ 65536 ∧ 0 ≤ s0 ∧ s0 ≤ 65536
  · rw [if_pos h, if_pos (e.2 h)]
  · rw [if_neg h, if_neg (fun h2 => h (e.1 h2))]
theorem code_no (i0 p0 : ByteArray) (k0 o0 l0 s0 : Int) (hk : knownB k0 = false) : codeOf ⟨i0, p0, k0, o0, l0, s0⟩ = 1 := by
  unfold knownB at hk
  simp [codeOf, It.ok, hk]
set_option maxHeartbeats 2000000 in
set_option maxRecDepth 100000 in
theorem rcheck_any (x : It) (w : World) : Calls Try.prog 34 #[x.val] w fun e w' => e = .returned (.int .i64 (codeOf x)) ∧ Below w.heap.size w w' := by
  obtain ⟨i0, p0, k0, o0, l0, s0⟩ := x
  have HK := fun W => Lib.hid (known_any k0 W)
  by_cases hkb : knownB k0 = true
  · rw [hkb] at HK
    have HC := Lib.hid (code_if i0 p0 k0 o0 l0 s0 hkb)
    clear hkb
    go_enter Try.func34, Try.ntmps34
    go_wp2_with (go_at_call 63; refine Calls.mono (HK _).out ?_; rintro e w' ⟨rfl, rfl⟩)
    all_goals
      go_ret
      exact ⟨ret_int (by rw [HC.out]; first | rw [if_pos (by omega)] | rw [if_neg (by omega)]), ((Below.refl _ _).alloc (Nat.le_refl _) _).alloc (by simp) _⟩
  · have hkb' : knownB k0 = false := by simpa using hkb
    rw [hkb'] at HK
    have HC := Lib.hid (code_no i0 p0 k0 o0 l0 s0 hkb')
    clear hkb hkb'
    go_enter Try.func34, Try.ntmps34
    go_wp2_with (go_at_call 63; refine Calls.mono (HK _).out ?_; rintro e w' ⟨rfl, rfl⟩)
    all_goals
      go_ret
      exact ⟨ret_int (by rw [HC.out]), ((Below.refl _ _).alloc (Nat.le_refl _) _).alloc (by simp) _⟩
/-- 'Check' of any item. -/
theorem check_bad (x : It) (w : World) (h : x.ok = false) : Calls Try.prog 22 #[x.val] w fun e w' => e = .returned (.int .i64 1) ∧ Below w.heap.size w w' := by
  obtain ⟨i0, p0, k0, o0, l0, s0⟩ := x
  simp only [It.ok] at h
  have hk : ((k0 == 1) = true ∧ (k0 == 1 || k0 == 2) = true) ∨ ((k0 == 1) = false ∧ (k0 == 2) = true ∧ (k0 == 1 || k0 == 2) = true) ∨ ((k0 == 1) = false ∧ (k0 == 2) = false ∧ (k0 == 1 || k0 == 2) = false) := by
    cases h1 : (k0 == 1) <;> cases h2 : (k0 == 2) <;> simp
  have hb : (is32 i0 = false) ∨ (is32 i0 = true ∧ is32 p0 = false) ∨ (is32 i0 = true ∧ is32 p0 = true ∧ (k0 == 1 || k0 == 2) = false) ∨ (is32 i0 = true ∧ is32 p0 = true ∧ (k0 == 1 || k0 == 2) = true ∧ withinB o0 0 = false) ∨
      (is32 i0 = true ∧ is32 p0 = true ∧ (k0 == 1 || k0 == 2) = true ∧ withinB o0 0 = true ∧ withinB l0 1 = false) ∨ (is32 i0 = true ∧ is32 p0 = true ∧ (k0 == 1 || k0 == 2) = true ∧ withinB o0 0 = true ∧ withinB l0 1 = true ∧ withinB s0 0 = false) := by
    revert h
    cases is32 i0 <;> cases is32 p0 <;> cases (k0 == 1 || k0 == 2) <;> cases withinB o0 0 <;> cases withinB l0 1 <;> cases withinB s0 0 <;> simp
  clear h
  rcases hb with h1 | ⟨h1, h2⟩ | ⟨h1, h2, h3⟩ | ⟨h1, h2, h3, h4⟩ | ⟨h1, h2, h3, h4, h5⟩ | ⟨h1, h2, h3, h4, h5, h6⟩ <;> rcases hk with ⟨k1, k3⟩ | ⟨k1, k2, k3⟩ | ⟨k1, k2, k3⟩
  all_goals first
    | (exfalso; rw [k3] at h3; exact absurd h3 (by decide))
    | (clear k3; (try clear h3)
       go_enter Try.func22, Try.ntmps22
       go_wp2_with (first | (go_at_call 44; refine (isId_any _ _).mono ?_; rintro e w' ⟨rfl, rfl⟩) | (go_at_call 45; refine (within_any _ _ _).mono ?_; rintro e w' ⟨rfl, rfl⟩))
       go_ret
       exact ⟨rfl, (Below.refl _ _).alloc (Nat.le_refl _) _⟩)
end Go.Proofs.Ytgigihlmpdpggaa
