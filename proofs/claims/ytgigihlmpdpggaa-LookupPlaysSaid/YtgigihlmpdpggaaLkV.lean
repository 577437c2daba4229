import Derived.Test.YtgigihlmpdpggaaLkU
namespace Go.Proofs.Ytgigihlmpdpggaa
open Go.RowKit
theorem str_info : (Try.prog.info? 9).map (fun i => (i.zero, i.size, i.bytes)) = some (some (.string ByteArray.empty), 1, 16) := by kernel_rfl
/-- What 'Ids' of an empty table comes to. -/
def NoIds (w : World) (e : Ending) (w' : World) : Prop := e = .returned (.slice none 0 0) ∧ Below w.heap.size w w'
set_option maxHeartbeats 1000000 in
set_option maxRecDepth 100000 in
theorem ids_none (b : Nat) (V : List Value) (L : List (List It)) (w : World) (ht : Tab w b V L) (hlen : ∀ xs ∈ L, xs = []) :
    Calls Try.prog 16 #[.pointer (some ⟨b, 0, none⟩)] w (NoIds w) := by
  have HA := Lib.hid (all_any b V L w ht (fun xs hx => by rw [hlen xs hx]; simp))
  have hl : L.flatten.length = 0 := by
    rw [List.length_eq_zero_iff, List.flatten_eq_nil_iff]
    exact hlen
  clear ht hlen
  go_enter Try.func16, Try.ntmps16
  go_wp2_with fail
  refine Calls.mono HA.out ?_
  rintro e w1 ⟨v, rfl, hown, hb⟩
  rw [hl] at hown
  obtain ⟨A, c, rfl⟩ : ∃ A c, v = .slice A 0 c := by
    rcases hown.2 with ⟨rfl, _⟩ | ⟨_, _, _, rfl, _⟩ <;> exact ⟨_, _, rfl⟩
  have HB := Lib.hid hb
  clear hown hb HA
  go_wp2
  go_loopw [3, 9] (fun o i wr => o = .slice none 0 0 ∧ i = .int .i64 0 ∧ wr = w1) (fun _ _ _ => 0)
  case atStart => exact ⟨rfl, rfl, rfl⟩
  case round =>
    obtain ⟨rfl, rfl, hw⟩ := hrel
    obtain rfl := hw.symm
    go_wp2
    go_ret
    exact ⟨rfl, HB.out⟩
end Go.Proofs.Ytgigihlmpdpggaa
