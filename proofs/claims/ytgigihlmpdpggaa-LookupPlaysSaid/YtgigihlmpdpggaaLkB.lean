import Derived.Test.YtgigihlmpdpggaaLkA
import Derived.Lib.Strings
namespace Go.Proofs.Ytgigihlmpdpggaa
open Go.RowKit
def lessB (x y : It) : Bool := decide (x.ord y < 0)
set_option maxHeartbeats 400000 in
theorem less_any (x y : It) (w : World) : Calls Try.prog 13 #[x.val, y.val] w fun e w' => e = .returned (.bool (lessB x y)) ∧ Below w.heap.size w w' := by
  obtain ⟨o, ho⟩ : ∃ o, x.ord y = o := ⟨_, rfl⟩
  have HO : Hid (lessB x y = decide (o < 0)) := by rw [← ho]; rfl
  have HC := order_any x y
  rw [ho] at HC
  have HC' := fun w => Lib.hid (HC w)
  clear HC ho
  obtain ⟨i0, p0, k0, o0, l0, s0⟩ := x
  obtain ⟨i1, p1, k1, o1, l1, s1⟩ := y
  go_enter Try.func13, Try.ntmps13
  go_wp2_with fail
  refine Calls.mono (HC' _).out ?_
  rintro e w' ⟨rfl, hb⟩
  have HB := Lib.hid hb
  clear hb
  go_wp2
  go_ret
  refine ⟨by rw [HO.out]; rfl, ?_⟩
  have hb := HB.out
  exact (((Below.refl _ _).alloc (Nat.le_refl _) _).alloc (by simp) _).trans (hb.mono (by simp; omega))
def is32 (s : ByteArray) : Bool := ((s.size : Int) == 32)
theorem isId_any (s : ByteArray) (w : World) : Calls Try.prog 44 #[.string s] w fun e w' => e = .returned (.bool (is32 s)) ∧ w = w' := by
  go_enter Try.func44, Try.ntmps44
  go_wp2
  go_ret
  exact ⟨rfl, rfl⟩
def withinB (n l : Int) : Bool := decide (l ≤ n ∧ n ≤ 65536)
theorem within_any (n l : Int) (w : World) : Calls Try.prog 45 #[.int .i64 n, .int .i64 l] w fun e w' => e = .returned (.bool (withinB n l)) ∧ w = w' := by
  by_cases h : l ≤ n
  · have H : Hid (withinB n l = decide (n ≤ 65536)) := by unfold withinB; simp [h, Hid]
    go_enter Try.func45, Try.ntmps45
    go_wp2
    go_ret
    exact ⟨by rw [H.out]; rfl, rfl⟩
  · have H : Hid (withinB n l = false) := by unfold withinB; simp [h, Hid]
    go_enter Try.func45, Try.ntmps45
    go_wp2
    go_ret
    exact ⟨by rw [H.out]; rfl, rfl⟩
def emptyCells : Array Value := Array.replicate 256 (.slice none 0 0)
theorem emptyCells_size : emptyCells.size = 256 := by simp [emptyCells]
theorem zero_table : Try.zeroCells57 = emptyCells := by kernel_rfl
theorem new_any (w : World) : Calls Try.prog 5 #[] w fun e w' => e = .returned (.pointer (some ⟨w.heap.size, 0, none⟩)) ∧ w' = w.alloc (.cells emptyCells 57) := by
  rw [← zero_table]
  go_enter Try.func5, Try.ntmps5
  go_wp2
  go_ret
  exact ⟨rfl, rfl⟩
theorem toList_isEmpty (s : ByteArray) : s.toList.isEmpty = decide (s.size = 0) := by
  rw [Lib.toList_data, Lib.size_eq]
  cases s.data.toList <;> simp
/-- The number of the list in which an id's items are. -/
def slot (s : ByteArray) : Nat := if h : 0 < s.size then (s[0]'h).toNat else 0
theorem slot_lt (s : ByteArray) : slot s < 256 := by
  unfold slot
  split
  · exact UInt8.toNat_lt _
  · omega
set_option maxHeartbeats 400000 in
theorem list_any (b : Nat) (s : ByteArray) (w : World) : Calls Try.prog 23 #[.pointer (some ⟨b, 0, none⟩), .string s] w fun e w' => e = .returned (.pointer (some ⟨b, slot s, none⟩)) ∧ ∃ n, w' = w.drewN n := by
  by_cases h : 0 < s.size
  · have e : slot s = (s[0]'h).toNat := by unfold slot; rw [dif_pos h]
    have hlt := UInt8.toNat_lt (s[0]'h)
    rw [e]
    have hE : s.toList.isEmpty = false := by rw [toList_isEmpty]; exact decide_eq_false (by omega)
    go_enter Try.func23, Try.ntmps23
    go_wp2
    go_quiet (fail)
    go_wp2
    go_ret
    exact ⟨rfl, nq, rfl⟩
  · have e : slot s = 0 := by unfold slot; rw [dif_neg h]
    rw [e]
    have hE : s.toList.isEmpty = true := by rw [toList_isEmpty]; exact decide_eq_true (by omega)
    go_enter Try.func23, Try.ntmps23
    go_wp2
    go_ret
    exact ⟨rfl, 0, rfl⟩
/-- May an item be? -/
def It.ok (x : It) : Bool := (x.kind == 1 || x.kind == 2) && is32 x.id && is32 x.pack && withinB x.off 0 && withinB x.long 1 && withinB x.size 0
set_option maxHeartbeats 1000000 in
set_option maxRecDepth 100000 in
theorem check_ok (x : It) (w : World) (h : x.ok = true) : Calls Try.prog 22 #[x.val] w fun e w' => e = .returned (.int .i64 0) ∧ Below w.heap.size w w' := by
  obtain ⟨i0, p0, k0, o0, l0, s0⟩ := x
  simp only [It.ok, Bool.and_eq_true] at h
  obtain ⟨⟨⟨⟨⟨hk, h1⟩, h2⟩, h3⟩, h4⟩, h5⟩ := h
  have HK := Lib.hid hk
  clear hk
  have hk1 : (k0 == 1) = true ∨ (k0 == 1) = false ∧ (k0 == 2) = true := by
    have := HK.out
    cases hh : (k0 == 1) <;> simp [hh] at this ⊢
    exact this
  rcases hk1 with hk1 | ⟨hk1, hk2⟩
  all_goals
    go_enter Try.func22, Try.ntmps22
    go_wp2_with (first | (go_at_call 44; refine (isId_any _ _).mono ?_; rintro e w' ⟨rfl, rfl⟩) | (go_at_call 45; refine (within_any _ _ _).mono ?_; rintro e w' ⟨rfl, rfl⟩))
    go_ret
    exact ⟨rfl, (Below.refl _ _).alloc (Nat.le_refl _) _⟩
end Go.Proofs.Ytgigihlmpdpggaa
