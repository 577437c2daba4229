import Derived.Test.YtgigihlmpdpggaaLkC
namespace Go.Proofs.Ytgigihlmpdpggaa
open Go.RowKit
set_option maxHeartbeats 400000 in
theorem places1_any (x : It) (s : ByteArray) (w : World) : Calls Try.prog 59 #[x.val, .string s] w fun e w' => e = .returned (.int .i64 (cmpS x.id s)) ∧ Below w.heap.size w w' := by
  obtain ⟨i0, p0, k0, o0, l0, s0⟩ := x
  go_enter Try.func59, Try.ntmps59
  go_wp2_with (go_at_call 47; refine (cmp_s _ _ _).mono ?_; rintro e w' ⟨rfl, rfl⟩)
  go_ret
  exact ⟨rfl, (Below.refl _ _).alloc (Nat.le_refl _) _⟩
set_option maxHeartbeats 1000000 in
set_option maxRecDepth 100000 in
theorem bs_str (g cap r : Nat) (xs : List It) (t : ByteArray) (w : World) (hn : xs.length ≤ 65536) (hg : g < w.heap.size) (hc : ∀ i x, xs[i]? = some x → CellsAt w g (i * 6) x)
    (hr : r ≤ xs.length) (hlo : ∀ i x, i < r → xs[i]? = some x → cmpS x.id t < 0) (hhi : ∀ i x, r ≤ i → xs[i]? = some x → 0 ≤ cmpS x.id t) :
    Calls Try.prog 58 #[.slice (some ⟨g, 0, none⟩) xs.length cap, .string t, .func (.func 59) #[] #[]] w fun e w' =>
      e = .returned (.tuple #[.int .i64 r, .bool ((xs[r]?).any fun x => cmpS x.id t == 0)]) ∧ Below w.heap.size w w' := by
  have HLO := Lib.hid hlo
  have HHI := Lib.hid hhi
  clear hlo hhi
  go_enter Try.func58, Try.ntmps58
  go_wp2
  go_loopw [9, 10] (fun a b wr => ∃ i j : Nat, a = .int .i64 i ∧ b = .int .i64 j ∧ i ≤ r ∧ r ≤ j ∧ j ≤ xs.length ∧ Below w.heap.size w wr) (fun a b _ => (intOf b).toNat - (intOf a).toNat)
  case atStart => exact ⟨0, xs.length, rfl, rfl, by omega, hr, by omega, Below.refl _ _⟩
  case round =>
    obtain ⟨i, j, rfl, rfl, hir, hrj, hjn, hb⟩ := hrel
    by_cases hij : i < j
    · obtain ⟨h, hh⟩ : ∃ h, (i + j) / 2 = h := ⟨_, rfl⟩
      obtain ⟨x, hx⟩ : ∃ x, xs[h]? = some x := ⟨_, List.getElem?_eq_getElem (by omega)⟩
      have hcx : CellsAt wr g (h * 6) x := (hc h x hx).below hb hg
      obtain ⟨e0, e1, e2, e3, e4, e5⟩ := hcx
      have HX := Lib.hid hx
      have HB := Lib.hid hb
      have hh1 : i ≤ h := by omega
      have hh2 : h < j := by omega
      have hh3 : ((i : Int) + (j : Int)) / 2 = (h : Int) := by omega
      have HH := Lib.hid hh
      clear hh hb hx hc
      obtain ⟨o, ho⟩ : ∃ o, cmpS x.id t = o := ⟨_, rfl⟩
      have HC := fun W => places1_any x t W
      rw [ho] at HC
      have HC' := fun W => Lib.hid (HC W)
      have hlt : o < 0 ∧ h < r ∨ 0 ≤ o ∧ r ≤ h := by
        by_cases c : h < r
        · exact .inl ⟨by rw [← ho]; exact HLO.out h x c HX.out, c⟩
        · exact .inr ⟨by rw [← ho]; exact HHI.out h x (by omega) HX.out, by omega⟩
      clear HC ho
      rcases hlt with ⟨ho, hhr⟩ | ⟨ho, hhr⟩
      · go_wp2_with fail
        refine Calls.mono (HC' _).out ?_
        rintro e w1 ⟨rfl, hb1⟩
        have HB1 := Lib.hid hb1
        clear hb1 HC'
        go_wp2
        go_roundw
        case rel => exact ⟨h + 1, j, by go_num, rfl, by omega, by omega, by omega, HB.out.trans (HB1.out.mono HB.out.size)⟩
        case measure => simp [intOf]; omega
      · go_wp2_with fail
        refine Calls.mono (HC' _).out ?_
        rintro e w1 ⟨rfl, hb1⟩
        have HB1 := Lib.hid hb1
        clear hb1 HC'
        go_wp2
        go_roundw
        case rel => exact ⟨i, h, rfl, rfl, by omega, by omega, by omega, HB.out.trans (HB1.out.mono HB.out.size)⟩
        case measure => simp [intOf]; omega
    · have hir' : i = r := by omega
      subst hir'
      by_cases hin : i < xs.length
      · obtain ⟨x, hx⟩ : ∃ x, xs[i]? = some x := ⟨_, List.getElem?_eq_getElem hin⟩
        have hcx : CellsAt wr g (i * 6) x := (hc i x hx).below hb hg
        obtain ⟨e0, e1, e2, e3, e4, e5⟩ := hcx
        obtain ⟨o, ho⟩ : ∃ o, cmpS x.id t = o := ⟨_, rfl⟩
        have HC := fun W => places1_any x t W
        rw [ho] at HC
        have HC' := fun W => Lib.hid (HC W)
        have HR : Hid (((xs[i]?).any fun x => cmpS x.id t == 0) = (o == 0)) := by
          rw [hx, ← ho]; rfl
        have HB := Lib.hid hb
        clear hb hc HC ho hx
        go_wp2_with fail
        refine Calls.mono (HC' _).out ?_
        rintro e w1 ⟨rfl, hb1⟩
        have HB1 := Lib.hid hb1
        clear hb1 HC'
        go_wp2
        go_ret2
        exact ⟨by rw [HR.out]; rfl, HB.out.trans (HB1.out.mono HB.out.size)⟩
      · have HR : Hid (((xs[i]?).any fun x => cmpS x.id t == 0) = false) := by
          rw [List.getElem?_eq_none (by omega)]; rfl
        have HB := Lib.hid hb
        have hin2 : decide ((i : Int) < (xs.length : Int)) = false := by simp; omega
        clear hb hc
        go_wp2
        go_ret2
        exact ⟨by rw [HR.out]; rfl, HB.out⟩
end Go.Proofs.Ytgigihlmpdpggaa
