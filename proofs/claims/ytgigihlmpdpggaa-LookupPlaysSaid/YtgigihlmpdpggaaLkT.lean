import Derived.Test.YtgigihlmpdpggaaLkS
import Derived.Lib.AppendZeros
namespace Go.Proofs.Ytgigihlmpdpggaa
open Go.RowKit
/-- What 'slices.Grow' makes of nil: a row of no item, in a block of its own. -/
def GrownNil (w : World) (e : Ending) (w' : World) : Prop := ∃ v, e = .returned v ∧ w'.ownsRow w.heap.size 32 6 v 0 [] ∧ Below w.heap.size w w'
set_option maxHeartbeats 1000000 in
set_option maxRecDepth 100000 in
theorem grow_nil (n : Nat) (w : World) (hn : n ≤ 16777216) : Calls Try.prog 57 #[.slice none 0 0, .int .i64 n] w (GrownNil w) := by
  obtain ⟨i0, hi0, hz0, hz1, hz2⟩ := info_parts item_info
  by_cases h0 : n = 0
  · subst h0
    have HF : Hid (GrownNil w (.returned (.slice none 0 0)) w) := ⟨_, rfl, World.ownsRow_nil _ _ _ _, Below.refl _ _⟩
    go_enter Try.func57, Try.ntmps57
    go_wp2
    go_ret
    exact HF.out
  · have hge := grownCap_ge w n 0 32
    have hgm := grownCap_le_maxLen w n 0 32 (by unfold maxLen; omega)
    have hrun := fun ty => Lib.run_append_nil_zeros (P := Try.prog) w 35 3 ty 32 i0 _ .i64 .i64 Try.underlying35 Try.underlying3 hi0 hz0 n (by omega) (by omega) (by omega) (by rw [hz2]; omega)
    obtain ⟨C, hC⟩ : ∃ C, grownCap w n 0 32 = C := ⟨_, rfl⟩
    rw [hC] at hge hgm
    simp only [hC] at hrun
    obtain ⟨cs, hcs⟩ : ∃ cs, Builtin.zeroCells zItem.cells n ++ Builtin.zeroCells zItem.cells (C - n) = cs := ⟨_, rfl⟩
    have hsz : cs.size = C * 6 := by
      rw [← hcs]
      simp only [Array.size_append, size_zeroCells, zItem_size]
      omega
    simp only [hcs] at hrun
    have HF : Hid (GrownNil w (.returned (.slice (some ⟨w.heap.size, 0, none⟩) 0 C)) (w.drew.alloc (.cells cs 32))) :=
      ⟨_, rfl, ⟨rfl, .inr ⟨w.heap.size, C, cs, rfl, Nat.le_refl _, heap_alloc_new w.drew _, Nat.zero_le _, hgm, hsz, by simp⟩⟩, (Below.refl _ _).drew.alloc (Nat.le_refl _) _⟩
    have hpos : 0 < n := by omega
    clear hC hcs hsz
    go_enter Try.func57, Try.ntmps57
    go_wp2_with (at_builtin; refine Lib.wpList_append_run _ rfl (.tmp 20) (.tmp 21) _ _ rfl _ _ rfl rfl _ _ (hrun _) ?_)
    go_ret
    exact HF.out
end Go.Proofs.Ytgigihlmpdpggaa
