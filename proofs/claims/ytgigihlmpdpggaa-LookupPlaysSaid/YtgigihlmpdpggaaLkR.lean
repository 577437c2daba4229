import Derived.Test.YtgigihlmpdpggaaLkP
namespace Go.Proofs.Ytgigihlmpdpggaa
open Go.RowKit
def lenTo (k : Nat) (L : List (List It)) : Nat := ((L.take k).map List.length).sum
theorem lenTo_succ (k : Nat) (L : List (List It)) (xs : List It) (hx : L[k]? = some xs) : lenTo (k + 1) L = lenTo k L + xs.length := by
  unfold lenTo
  rw [List.take_add_one, hx]
  simp
theorem lenTo_le (k : Nat) (L : List (List It)) (h : ∀ xs ∈ L, xs.length ≤ 65536) : lenTo k L ≤ k * 65536 := by
  induction k with
  | zero => simp [lenTo]
  | succ k ih =>
    cases hx : L[k]? with
    | none =>
      have : lenTo (k + 1) L = lenTo k L := by unfold lenTo; rw [List.take_add_one, hx]; simp
      omega
    | some xs =>
      rw [lenTo_succ k L xs hx]
      have := h xs (List.mem_of_getElem? hx)
      omega
theorem lenTo_all (L : List (List It)) (h : L.length = 256) : lenTo 256 L = L.flatten.length := by
  unfold lenTo
  rw [List.take_of_length_le (by omega), List.length_flatten]
set_option maxHeartbeats 1000000 in
set_option maxRecDepth 100000 in
theorem len_any (b : Nat) (V : List Value) (L : List (List It)) (w : World) (ht : Tab w b V L) (hlen : ∀ xs ∈ L, xs.length ≤ 65536) :
    Calls Try.prog 11 #[.pointer (some ⟨b, 0, none⟩)] w fun e w' => e = .returned (.int .i64 (lenTo 256 L)) ∧ w' = w := by
  have HT := Lib.hid ht
  have HL := Lib.hid hlen
  have hld := load_arr w b V ht.lenV ht.blk
  clear ht hlen
  go_enter Try.func11, Try.ntmps11
  go_wp2_with (refine wpList_load_run _ rfl (.tmp 8) 55 rfl _ rfl _ hld ?_)
  clear hld
  go_loopw [3, 10] (fun a i wr => ∃ k : Nat, i = .int .i64 k ∧ a = .int .i64 (lenTo k L) ∧ k ≤ 256 ∧ wr = w) (fun _ i _ => 256 - (intOf i).toNat)
  case atStart => exact ⟨0, rfl, rfl, by omega, rfl⟩
  case round =>
    obtain ⟨k, rfl, rfl, hk, rfl⟩ := hrel
    have hgl := lenTo_le k L HL.out
    by_cases hk2 : k < 256
    · obtain ⟨v, hv⟩ : ∃ v, V[k]? = some v := ⟨_, List.getElem?_eq_getElem (by rw [HT.out.lenV]; exact hk2)⟩
      obtain ⟨xs, hx⟩ : ∃ xs, L[k]? = some xs := ⟨_, List.getElem?_eq_getElem (by rw [HT.out.lenL]; exact hk2)⟩
      have hxl : xs.length ≤ 65536 := HL.out xs (List.mem_of_getElem? hx)
      obtain ⟨A0, c0, rfl⟩ : ∃ A c, v = Value.slice A xs.length c := by
        rcases (HT.out.row k v xs hv hx).2 with ⟨rfl, h⟩ | ⟨_, _, _, rfl, _⟩
        · exact ⟨_, _, by rw [h]⟩
        · exact ⟨_, _, rfl⟩
      have hix := index_arr V k _ wr (by simpa using hv) (by simpa using HT.out.lenV)
      have HX := Lib.hid hx
      clear hv hx
      go_wp2
      go_roundw
      case rel => exact ⟨k + 1, by go_num, by rw [lenTo_succ k L xs HX.out]; rfl, by omega, trivial⟩
      case measure => simp [intOf]; omega
    · have hk256 : k = 256 := by omega
      subst hk256
      go_wp2
      go_ret
      exact ⟨rfl, rfl⟩
end Go.Proofs.Ytgigihlmpdpggaa
