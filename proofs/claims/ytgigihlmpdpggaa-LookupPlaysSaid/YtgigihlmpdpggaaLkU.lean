import Derived.Test.YtgigihlmpdpggaaLkT
import Derived.Deep.Upon
namespace Go.Proofs.Ytgigihlmpdpggaa
open Go.RowKit
/-- What 'All' comes to: all items, in one row of its own. -/
def Alled (w : World) (L : List (List It)) (e : Ending) (w' : World) : Prop := ∃ v, e = .returned v ∧ w'.ownsRow w.heap.size 32 6 v L.flatten.length (flat L.flatten) ∧ Below w.heap.size w w'
theorem src_none (w : World) (A : Option Addr) (c : Nat) : Src Try.prog 6 35 (.slice A 0 c) 0 [] w := by
  refine ⟨.inl ⟨_, Try.underlying35⟩, fun w' => rfl, ?_, ?_, rfl, by simp⟩
  · cases A <;> simp [Builtin.firstCells, loadCells, loadCellsFrom]
  · cases A <;> simp [Builtin.firstCells, loadCells, loadCellsFrom]
theorem append_row (B : Nat) (w : World) (o v : Value) (n : Nat) (ks : List Value) (xs : List It) (hown : w.ownsRow B 32 6 o n ks) (hrow : Row w v xs) (hB : B ≤ w.heap.size) (hn : n + xs.length ≤ 33554432) :
    ∃ o' w', (Builtin.append_ #[35, 35] 35 #[o, v]).run Try.prog w = .ok o' w' ∧ w'.ownsRow B 32 6 o' (n + xs.length) (ks ++ flat xs) ∧ w.grownBy w' o.ownBlock := by
  obtain ⟨i0, hi0, hz0, hz1, hz2⟩ := info_parts item_info
  rcases hrow.2 with ⟨rfl, h1⟩ | ⟨g, cap, cur, rfl, _, hg, _⟩
  · have : xs = [] := List.eq_nil_of_length_eq_zero h1
    subst this
    obtain ⟨A, c, rfl, hc⟩ : ∃ A c, o = .slice A n c ∧ n ≤ c := by
      rcases hown.2 with ⟨rfl, rfl⟩ | ⟨_, c, _, rfl, _, _, h2, _⟩
      · exact ⟨_, _, rfl, Nat.le_refl _⟩
      · exact ⟨_, c, rfl, h2⟩
    refine ⟨_, w, run_append_nothing w _ _ _ 32 i0 Try.underlying35 hi0 A n c hc _ (by rw [hz1]; exact src_none w none 0), by simpa [flat] using hown, ⟨rfl, rfl, rfl, Nat.le_refl _, fun _ _ _ => rfl⟩⟩
  · obtain ⟨v', w', hrun, hrow', hgrow, _⟩ := run_append_own_at (P := Try.prog) w B 35 35 32 i0 _ 6 64 Try.underlying35 hi0 hz0 hz1 hz2 rfl (by omega) o n ks hown ⟨g, 0, none⟩ xs.length cap (flat xs) (flat_length xs)
      (fun j u hu => hrow.cells rfl j u hu) (fun u hu => by simp only [flat, List.mem_flatMap] at hu; obtain ⟨x, _, hx⟩ := hu; exact cells_one x u hx) (by unfold maxLen; omega) (by omega) hB
    exact ⟨v', w', hrun, hrow', hgrow⟩
set_option maxHeartbeats 1000000 in
set_option maxRecDepth 100000 in
theorem concat_tab (b : Nat) (V : List Value) (L : List (List It)) (w : World) (ht : Tab w b V L) (hlen : ∀ xs ∈ L, xs.length ≤ 65536) :
    Calls Try.prog 28 #[.slice (some ⟨b, 0, none⟩) 256 256] w (Alled w L) := by
  have HT := Lib.hid ht
  have HL := Lib.hid hlen
  clear ht hlen
  go_enter Try.func28, Try.ntmps28
  go_wp2
  go_loopw [3, 11] (fun a i wr => ∃ k : Nat, i = .int .i64 k ∧ a = .int .i64 (lenTo k L) ∧ k ≤ 256 ∧ wr = w) (fun _ i _ => 256 - (intOf i).toNat)
  case atStart => exact ⟨0, rfl, rfl, by omega, rfl⟩
  case round =>
    obtain ⟨k, rfl, rfl, hk, hw⟩ := hrel
    obtain rfl := hw.symm
    have hgl := lenTo_le k L HL.out
    by_cases hk2 : k < 256
    · obtain ⟨v, hv⟩ : ∃ v, V[k]? = some v := ⟨_, List.getElem?_eq_getElem (by rw [HT.out.lenV]; exact hk2)⟩
      obtain ⟨xs, hx⟩ : ∃ xs, L[k]? = some xs := ⟨_, List.getElem?_eq_getElem (by rw [HT.out.lenL]; exact hk2)⟩
      have hxl : xs.length ≤ 65536 := HL.out xs (List.mem_of_getElem? hx)
      obtain ⟨A0, c0, rfl⟩ := (HT.out.row k v xs hv hx).lenV
      have hcell := HT.out.cell hv
      have HX := Lib.hid hx
      clear hv hx
      go_wp2
      go_roundw
      case rel => exact ⟨k + 1, by go_num, by rw [lenTo_succ k L xs HX.out]; rfl, by omega, trivial⟩
      case measure => simp [intOf]; omega
    · have hk256 : k = 256 := by omega
      subst hk256
      have HG := Lib.hid (grow_nil (lenTo 256 L) w (by omega))
      go_wp2_with fail
      refine Calls.mono HG.out ?_
      rintro e w1 ⟨o, rfl, hown, hb⟩
      obtain ⟨i0, hi0, hz0, hz1, hz2⟩ := info_parts item_info
      have HO := Lib.hid hown
      have HB := Lib.hid hb
      clear hown hb HG
      go_wp2
      go_loopw [6, 27] (fun o i w2 => ∃ k : Nat, i = .int .i64 k ∧ k ≤ 256 ∧ w2.ownsRow w.heap.size 32 6 o (lenTo k L) (flat (L.take k).flatten) ∧ Below w.heap.size w w2) (fun _ i _ => 256 - (intOf i).toNat)
      case atStart => exact ⟨0, rfl, by omega, by simpa [lenTo, flat] using HO.out, HB.out⟩
      case round =>
        obtain ⟨k, rfl, hk3, hown, hb2⟩ := hrel
        have hgl2 := lenTo_le k L HL.out
        by_cases hk4 : k < 256
        · have hs2 := hb2.size
          obtain ⟨v, hv⟩ : ∃ v, V[k]? = some v := ⟨_, List.getElem?_eq_getElem (by rw [HT.out.lenV]; exact hk4)⟩
          obtain ⟨xs, hx⟩ : ∃ xs, L[k]? = some xs := ⟨_, List.getElem?_eq_getElem (by rw [HT.out.lenL]; exact hk4)⟩
          have hxl : xs.length ≤ 65536 := HL.out xs (List.mem_of_getElem? hx)
          have hrow0 := HT.out.row k v xs hv hx
          have hrow : Row wr v xs := row_block hrow0 fun g hg => hb2.block g (row_lt hrow0 hg)
          have hcell : wr.cell? ⟨b, k, none⟩ = some v := (hb2.cell (p := ⟨b, k, none⟩) HT.out.lt).trans (HT.out.cell hv)
          have hlt1 := lenTo_succ k L xs hx
          have hfl : flat (L.take (k + 1)).flatten = flat (L.take k).flatten ++ flat xs := by
            rw [List.take_add_one, hx]
            simp [flat]
          have HLT := Lib.hid hlt1
          have HFL := Lib.hid hfl
          obtain ⟨o', w', hrun, hrow', hgrow⟩ := append_row w.heap.size wr u6 v (lenTo k L) _ xs hown hrow hs2 (by omega)
          have HB' := Lib.hid (hb2.grown hgrow hs2 (fun g hg => (hown.lt g hg).1))
          have HR' := Lib.hid hrow'
          obtain ⟨A0, c0, rfl⟩ := hrow0.lenV
          clear hrow' hgrow hown hb2 hrow hrow0 hlt1 hfl hv hx hs2
          go_wp2_with (at_builtin; refine Lib.wpList_append_run _ rfl (.tmp 31) (.tmp 32) _ _ rfl _ _ rfl rfl _ _ hrun ?_)
          go_roundw
          case rel => exact ⟨k + 1, by go_num, by omega, by rw [HLT.out, HFL.out]; exact HR'.out, HB'.out⟩
          case measure => simp [intOf]; omega
        · have hk5 : k = 256 := by omega
          subst hk5
          have HF : Hid (Alled w L (.returned u6) wr) := by
            refine ⟨u6, rfl, ?_, hb2⟩
            rw [lenTo_all L HT.out.lenL, List.take_of_length_le (by rw [HT.out.lenL]; omega)] at hown
            exact hown
          clear hown hb2
          go_wp2
          go_ret
          exact HF.out
set_option maxHeartbeats 1000000 in
set_option maxRecDepth 100000 in
theorem all_any (b : Nat) (V : List Value) (L : List (List It)) (w : World) (ht : Tab w b V L) (hlen : ∀ xs ∈ L, xs.length ≤ 65536) :
    Calls Try.prog 10 #[.pointer (some ⟨b, 0, none⟩)] w (Alled w L) := by
  have HC := Lib.hid (concat_tab b V L w ht hlen)
  clear ht hlen
  go_enter Try.func10, Try.ntmps10
  go_wp2_with fail
  refine Calls.mono HC.out ?_
  rintro e w1 ⟨v, rfl, hown, hb⟩
  have HF : Hid (Alled w L (.returned v) w1) := ⟨v, rfl, hown, hb⟩
  clear hown hb HC
  go_wp2
  go_ret
  exact HF.out
end Go.Proofs.Ytgigihlmpdpggaa
