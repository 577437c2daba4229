import Derived.Test.YtgigihlmpdpggaaLkH
namespace Go.Proofs.Ytgigihlmpdpggaa
open Go.RowKit
set_option maxHeartbeats 1000000 in
set_option maxRecDepth 100000 in
theorem bs_items_nil (t : It) (w : World) :
    Calls Try.prog 24 #[.slice none 0 0, t.val, .func (.func 25) #[] #[]] w fun e w' => e = .returned (.tuple #[.int .i64 (0 : Nat), .bool false]) ∧ Below w.heap.size w w' := by
  obtain ⟨i0, p0, k0, o0, l0, s0⟩ := t
  go_enter Try.func24, Try.ntmps24
  go_wp2
  go_loopw [9, 10] (fun a b wr => a = .int .i64 0 ∧ b = .int .i64 0 ∧ Below w.heap.size w wr) (fun _ _ _ => 0)
  case atStart => exact ⟨rfl, rfl, (Below.refl _ _).alloc (Nat.le_refl _) _⟩
  case round =>
    obtain ⟨rfl, rfl, hb⟩ := hrel
    have HB := Lib.hid hb
    clear hb
    go_wp2
    go_quiet (fail)
    go_wp2
    go_ret2
    exact ⟨rfl, below_drewN HB.out _⟩
set_option maxHeartbeats 1000000 in
set_option maxRecDepth 100000 in
theorem bs_str_nil (t : ByteArray) (w : World) :
    Calls Try.prog 58 #[.slice none 0 0, .string t, .func (.func 59) #[] #[]] w fun e w' => e = .returned (.tuple #[.int .i64 (0 : Nat), .bool false]) ∧ Below w.heap.size w w' := by
  go_enter Try.func58, Try.ntmps58
  go_wp2
  go_loopw [9, 10] (fun a b wr => a = .int .i64 0 ∧ b = .int .i64 0 ∧ Below w.heap.size w wr) (fun _ _ _ => 0)
  case atStart => exact ⟨rfl, rfl, Below.refl _ _⟩
  case round =>
    obtain ⟨rfl, rfl, hb⟩ := hrel
    have HB := Lib.hid hb
    clear hb
    go_wp2
    go_ret2
    exact ⟨rfl, HB.out⟩
/-- The binary search in a list of a table, nil too. -/
theorem bs_row (v : Value) (xs : List It) (t : It) (w : World) (hn : xs.length ≤ 65536) (hv : Row w v xs) (hr : Rising xs) :
    Calls Try.prog 24 #[v, t.val, .func (.func 25) #[] #[]] w fun e w' =>
      e = .returned (.tuple #[.int .i64 (pos t xs), .bool ((xs[pos t xs]?).any fun x => x.ord t == 0)]) ∧ Below w.heap.size w w' := by
  obtain ⟨cap, ⟨rfl, rfl⟩ | ⟨g, rfl, ho, hg, hcap, hm⟩⟩ := hv.form'
  · exact bs_items_nil t w
  · exact bs_items g cap (pos t xs) xs t w hn hg (fun i x hx => hv.at_ ho hx) (pos_le _ _) (pos_lo _ _) (pos_hi _ _ hr)
end Go.Proofs.Ytgigihlmpdpggaa
