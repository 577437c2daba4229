import Derived.Test.YtgigihlmpdpggaaLkL
namespace Go.Proofs.Ytgigihlmpdpggaa
open Go.RowKit
set_option maxHeartbeats 1000000 in
theorem drop1_any (x : It) (q : Nat) (p : ByteArray) (w : World) (hq : w.cell? ⟨q, 0, none⟩ = some (.string p)) :
    Calls Try.prog 33 #[x.val, .pointer (some ⟨q, 0, none⟩)] w fun e w' => e = .returned (.bool (x.pack.toList == p.toList)) ∧ Below w.heap.size w w' := by
  have hlt : q < w.heap.size := by
    rcases Nat.lt_or_ge q w.heap.size with h' | h'
    · exact h'
    · simp [World.cell?, Array.getElem?_eq_none h'] at hq
  obtain ⟨i0, p0, k0, o0, l0, s0⟩ := x
  have hne : q ≠ w.heap.size := by omega
  go_enter Try.func33, Try.ntmps33
  go_wp2
  go_ret
  exact ⟨rfl, (Below.refl _ _).alloc (Nat.le_refl _) _⟩
def idxV (r n : Nat) : Value := .int .i64 (if r = n then -1 else (r : Int))
set_option maxHeartbeats 1000000 in
set_option maxRecDepth 100000 in
theorem index_any (g cap q r : Nat) (xs : List It) (p : ByteArray) (w : World) (hn : xs.length ≤ 65536) (hg : g < w.heap.size) (hc : ∀ i x, xs[i]? = some x → CellsAt w g (i * 6) x) (hq : w.cell? ⟨q, 0, none⟩ = some (.string p))
    (hr : r ≤ xs.length) (hlo : ∀ i x, i < r → xs[i]? = some x → (x.pack.toList == p.toList) = false) (hhi : ∀ x, xs[r]? = some x → (x.pack.toList == p.toList) = true) :
    Calls Try.prog 62 #[.slice (some ⟨g, 0, none⟩) xs.length cap, .func (.func 33) #[] #[.pointer (some ⟨q, 0, none⟩)]] w fun e w' =>
      e = .returned (idxV r xs.length) ∧ Below w.heap.size w w' := by
  have HLO := Lib.hid hlo
  have HHI := Lib.hid hhi
  have HQ := Lib.hid hq
  have HC := Lib.hid hc
  have hqlt : q < w.heap.size := by
    rcases Nat.lt_or_ge q w.heap.size with h' | h'
    · exact h'
    · simp [World.cell?, Array.getElem?_eq_none h'] at hq
  clear hlo hhi hq hc
  go_enter Try.func62, Try.ntmps62
  go_wp2
  go_loopw [8] (fun a wr => ∃ i : Nat, a = .int .i64 i ∧ i ≤ r ∧ Below w.heap.size w wr) (fun a _ => xs.length - (intOf a).toNat)
  case atStart => exact ⟨0, rfl, Nat.zero_le _, Below.refl _ _⟩
  case round =>
    obtain ⟨i, rfl, hir, hb⟩ := hrel
    have hqi : wr.cell? ⟨q, 0, none⟩ = some (.string p) := (hb.cell (p := ⟨q, 0, none⟩) hqlt).trans HQ.out
    have hs := hb.size
    by_cases hin : i < xs.length
    · obtain ⟨x, hx⟩ : ∃ x, xs[i]? = some x := ⟨_, List.getElem?_eq_getElem hin⟩
      obtain ⟨e0, e1, e2, e3, e4, e5⟩ := (HC.out i x hx).below hb hg
      obtain ⟨t, ht⟩ : ∃ t, (x.pack.toList == p.toList) = t := ⟨_, rfl⟩
      have hd := drop1_any x q p wr hqi
      rw [ht] at hd
      have HD := Lib.hid hd
      have HB := Lib.hid hb
      have HX := Lib.hid hx
      have HT := Lib.hid ht
      clear hd hb hx ht hqi hs
      cases t with
      | true =>
        have hir' : i = r := by
          rcases Nat.lt_or_ge i r with h | h
          · have := HLO.out i x h HX.out
            rw [HT.out] at this
            simp at this
          · omega
        subst hir'
        go_wp2_with fail
        refine Calls.mono HD.out ?_
        rintro e w2 ⟨rfl, hb2⟩
        have HB2 := Lib.hid (HB.out.trans (hb2.mono HB.out.size))
        clear hb2 HD
        go_wp2
        go_ret
        exact ⟨by unfold idxV; rw [if_neg (by omega)]; rfl, HB2.out⟩
      | false =>
        have hir' : i < r := by
          rcases Nat.lt_or_ge i r with h | h
          · exact h
          · have : i = r := by omega
            subst this
            have := HHI.out x HX.out
            rw [HT.out] at this
            simp at this
        go_wp2_with fail
        refine Calls.mono HD.out ?_
        rintro e w2 ⟨rfl, hb2⟩
        have HB2 := Lib.hid (HB.out.trans (hb2.mono HB.out.size))
        clear hb2 HD
        go_wp2
        go_roundw
        case rel => exact ⟨i + 1, by go_num, by omega, HB2.out⟩
        case measure => simp [intOf]; omega
    · have : i = xs.length := by omega
      subst this
      have : r = xs.length := by omega
      subst this
      have HB := Lib.hid hb
      clear hqi hs hb
      go_wp2
      go_ret
      exact ⟨by unfold idxV; rw [if_pos rfl]; rfl, HB.out⟩
theorem index_nil (q : Nat) (w : World) : Calls Try.prog 62 #[.slice none 0 0, .func (.func 33) #[] #[.pointer (some ⟨q, 0, none⟩)]] w fun e w' =>
      e = .returned (.int .i64 (-1)) ∧ Below w.heap.size w w' := by
  go_enter Try.func62, Try.ntmps62
  go_wp2
  go_loopw [8] (fun a wr => a = .int .i64 0 ∧ wr = w) (fun a _ => 0)
  case atStart => exact ⟨rfl, rfl⟩
  case round =>
    obtain ⟨rfl, rfl⟩ := hrel
    go_wp2
    go_ret
    exact ⟨rfl, Below.refl _ _⟩
end Go.Proofs.Ytgigihlmpdpggaa
