import Derived.Test.YtfibmpacakjodaaLkW
import Derived.Deep.RegionHeld3
namespace Go.Proofs.Ytfibmpacakjodaa
open Go.RowKit
theorem less_self (x : It) : lessB x x = false := by
  have := ord_self x
  simp [lessB, this]
theorem less_both (x y : It) : ¬ (lessB x y = true ∧ lessB y x = true) := by
  have := ord_pre.anti x y
  simp only [lessB, decide_eq_true_eq]
  omega
theorem it_parts {i j p q : ByteArray} {a b c d e f g h : Int} (hh : (⟨i, p, a, b, c, d⟩ : It) = ⟨j, q, e, f, g, h⟩) : i = j ∧ p = q ∧ a = e ∧ b = f ∧ c = g ∧ d = h := by
  injection hh with h1 h2 h3 h4 h5 h6
  exact ⟨h1, h2, h3, h4, h5, h6⟩
theorem less_same (x y : It) (h1 : lessB x y = false) (h2 : lessB y x = false) : x.id = y.id ∧ x.pack = y.pack ∧ x.kind = y.kind ∧ x.off = y.off ∧ x.long = y.long ∧ x.size = y.size := by
  have := ord_pre.anti x y
  simp only [lessB, decide_eq_false_iff_not] at h1 h2
  have := ord_zero (x := x) (y := y) (by omega)
  subst this
  exact ⟨rfl, rfl, rfl, rfl, rfl, rfl⟩
/-- The first field in which two items part. -/
def Parts (x y : It) : Prop := ¬ x.id.toList = y.id.toList ∨ (x.id = y.id ∧ ¬ x.pack.toList = y.pack.toList) ∨ (x.id = y.id ∧ x.pack = y.pack ∧ ¬ x.kind = y.kind) ∨ (x.id = y.id ∧ x.pack = y.pack ∧ x.kind = y.kind ∧ ¬ x.off = y.off) ∨
  (x.id = y.id ∧ x.pack = y.pack ∧ x.kind = y.kind ∧ x.off = y.off ∧ ¬ x.long = y.long) ∨ (x.id = y.id ∧ x.pack = y.pack ∧ x.kind = y.kind ∧ x.off = y.off ∧ x.long = y.long ∧ ¬ x.size = y.size)
theorem parts_of (x y : It) (h : lessB x y ≠ lessB y x) : Parts x y := by
  unfold Parts
  by_cases h1 : x.id.toList = y.id.toList
  · have e1 := toList_inj h1
    by_cases h2 : x.pack.toList = y.pack.toList
    · have e2 := toList_inj h2
      by_cases h3 : x.kind = y.kind
      · by_cases h4 : x.off = y.off
        · by_cases h5 : x.long = y.long
          · by_cases h6 : x.size = y.size
            · exfalso
              obtain ⟨i, p, k, o, l, s⟩ := x
              obtain ⟨i', p', k', o', l', s'⟩ := y
              simp only at e1 e2 h3 h4 h5 h6
              subst e1 e2 h3 h4 h5 h6
              exact h rfl
            · exact .inr (.inr (.inr (.inr (.inr ⟨e1, e2, h3, h4, h5, h6⟩))))
          · exact .inr (.inr (.inr (.inr (.inl ⟨e1, e2, h3, h4, h5⟩))))
        · exact .inr (.inr (.inr (.inl ⟨e1, e2, h3, h4⟩)))
      · exact .inr (.inr (.inl ⟨e1, e2, h3⟩))
    · exact .inr (.inl ⟨e1, h2⟩)
  · exact .inl h1
theorem less_ways (x y : It) : (lessB x y = true ∧ lessB y x = false ∧ Parts x y) ∨ (lessB x y = false ∧ lessB y x = true ∧ Parts x y) ∨ (lessB x y = false ∧ lessB y x = false ∧ x.id = y.id ∧ x.pack = y.pack ∧ x.kind = y.kind ∧ x.off = y.off ∧ x.long = y.long ∧ x.size = y.size) := by
  have h1 := less_both x y
  have h2 := less_same x y
  have h3 := parts_of x y
  cases ha : lessB x y <;> cases hb : lessB y x
  · exact .inr (.inr ⟨rfl, rfl, h2 ha hb⟩)
  · exact .inr (.inl ⟨rfl, rfl, h3 (by rw [ha, hb]; decide)⟩)
  · exact .inl ⟨rfl, rfl, h3 (by rw [ha, hb]; decide)⟩
  · exact absurd ⟨ha, hb⟩ h1
theorem less_trans (x y z : It) (h1 : lessB x y = true) (h2 : lessB y z = true) : lessB x z = true := by
  simp only [lessB, decide_eq_true_eq] at *
  exact ord_pre.trans x y z h1 h2
theorem three_cells {w W : World} {a b c : Nat} {x y z : It} (hx : CellsAt w a 0 x) (hy : CellsAt w b 0 y) (hz : CellsAt w c 0 z) (ha : a < w.heap.size) (hb : b < w.heap.size) (hc : c < w.heap.size) (h : Below w.heap.size w W) :
    (CellsAt W a 0 x ∧ CellsAt W b 0 y ∧ CellsAt W c 0 z) := ⟨hx.below h ha, hy.below h hb, hz.below h hc⟩
theorem held_all {w1 : World} {P0 P1 P2 P3 P4 P5 P6 P7 P8 P9 P10 P11 : World → Prop} {W : World} (h : ∀ W, Below w1.heap.size w1 W → P0 W ∧ P1 W ∧ P2 W ∧ P3 W ∧ P4 W ∧ P5 W ∧ P6 W ∧ P7 W ∧ P8 W ∧ P9 W ∧ P10 W ∧ P11 W) (hW : Below w1.heap.size w1 W) :
    P0 W ∧ P1 W ∧ P2 W ∧ P3 W ∧ P4 W ∧ P5 W ∧ P6 W ∧ P7 W ∧ P8 W ∧ P9 W ∧ P10 W ∧ P11 W ∧ Below w1.heap.size w1 W := by
  obtain ⟨q0, q1, q2, q3, q4, q5, q6, q7, q8, q9, q10, q11⟩ := h W hW
  exact ⟨q0, q1, q2, q3, q4, q5, q6, q7, q8, q9, q10, q11, hW⟩
set_option maxHeartbeats 16000000 in
set_option maxRecDepth 100000 in
theorem one_walk (x y z : It) (w : World) : Calls Try.prog 3 #[x.val, y.val, z.val] w fun e w' => e = .returned (.bool true) ∧ Below w.heap.size w w' := by
  have HW := fun W => Lib.hid (works_any W)
  have HXX := fun W => Lib.hid (less_any x x W)
  rw [less_self] at HXX
  have HYZ := fun W => Lib.hid (less_any y z W)
  have HXZ := fun W => Lib.hid (less_any x z W)
  have hab := less_ways x y
  have HTR := Lib.hid (less_trans x y z)
  obtain ⟨d, hd⟩ : ∃ d, lessB y z = d := ⟨_, rfl⟩
  obtain ⟨c, hc⟩ : ∃ c, lessB x z = c := ⟨_, rfl⟩
  rw [hd] at HYZ
  rw [hc] at HXZ HTR
  obtain ⟨a, ha⟩ : ∃ a, lessB x y = a := ⟨_, rfl⟩
  obtain ⟨b, hb⟩ : ∃ b, lessB y x = b := ⟨_, rfl⟩
  have HXY := fun W => Lib.hid (less_any x y W)
  have HYX := fun W => Lib.hid (less_any y x W)
  rw [ha] at HXY
  rw [hb] at HYX
  rw [ha, hb] at hab
  obtain ⟨i0, p0, k0, o0, l0, s0⟩ := x
  obtain ⟨i1, p1, k1, o1, l1, s1⟩ := y
  obtain ⟨i2, p2, k2, o2, l2, s2⟩ := z
  simp only [Parts] at hab
  have HAB := Lib.hid hab
  clear hab
  go_enter Try.func3, Try.ntmps3
  go_wp2_with fail
  refine Calls.mono (HW _).out ?_
  rintro e w1 ⟨rfl, hb1⟩
  have hx : CellsAt w1 w.heap.size 0 ⟨i0, p0, k0, o0, l0, s0⟩ := by
    refine CellsAt.below (w := (((w.alloc _).alloc _).alloc _)) ?_ hb1 (by simp; omega)
    refine CellsAt.block (w := w.alloc _) (CellsAt.new w ⟨i0, p0, k0, o0, l0, s0⟩) ?_
    rw [Below.heap_alloc _ _ _ (by simp; omega), Below.heap_alloc _ _ _ (by simp)]
  have hy : CellsAt w1 (w.heap.size + 1) 0 ⟨i1, p1, k1, o1, l1, s1⟩ := by
    refine CellsAt.below (w := (((w.alloc _).alloc _).alloc _)) ?_ hb1 (by simp)
    have := CellsAt.new (w.alloc (.cells #[.string i0, .string p0, .int .i64 k0, .int .i64 o0, .int .i64 l0, .int .i64 s0] 25)) ⟨i1, p1, k1, o1, l1, s1⟩
    simp only [World.size_alloc] at this
    refine CellsAt.block this ?_
    rw [Below.heap_alloc _ _ _ (by simp)]
  have hz : CellsAt w1 (w.heap.size + 1 + 1) 0 ⟨i2, p2, k2, o2, l2, s2⟩ := by
    refine CellsAt.below (w := (((w.alloc _).alloc _).alloc _)) ?_ hb1 (by simp)
    have := CellsAt.new ((w.alloc (.cells #[.string i0, .string p0, .int .i64 k0, .int .i64 o0, .int .i64 l0, .int .i64 s0] 25)).alloc (.cells #[.string i1, .string p1, .int .i64 k1, .int .i64 o1, .int .i64 l1, .int .i64 s1] 25)) ⟨i2, p2, k2, o2, l2, s2⟩
    simpa only [World.size_alloc] using this
  have hs1 : w.heap.size + 1 + 1 < w1.heap.size := by have := hb1.size; simp at this; omega
  have hbw : Below w.heap.size w w1 := ((((Below.refl _ _).alloc (Nat.le_refl _) _).alloc (by simp) _).alloc (by simp; omega) _).trans (hb1.mono (by simp; omega))
  have HBW := Lib.hid hbw
  have HX := Lib.hid hx
  have HY := Lib.hid hy
  have HZ := Lib.hid hz
  have HK := fun W (hW : Below w1.heap.size w1 W) => two_cells (HX.out.below hW (by omega)) (HY.out.below hW (by omega))
  obtain ⟨d0, d1, d2, d3, d4, d5⟩ := hx
  obtain ⟨e0, e1, e2, e3, e4, e5⟩ := hy
  clear hz hb1 hbw
  go_wp2
  go_region_held3 (fun W => W.cell? ⟨w.heap.size, 0, none⟩ = some (.string i0) ∧ W.cell? ⟨w.heap.size, 1, none⟩ = some (.string p0) ∧ W.cell? ⟨w.heap.size, 2, none⟩ = some (.int .i64 k0) ∧ W.cell? ⟨w.heap.size, 3, none⟩ = some (.int .i64 o0) ∧ W.cell? ⟨w.heap.size, 4, none⟩ = some (.int .i64 l0) ∧ W.cell? ⟨w.heap.size, 5, none⟩ = some (.int .i64 s0) ∧ W.cell? ⟨w.heap.size + 1, 0, none⟩ = some (.string i1) ∧ W.cell? ⟨w.heap.size + 1, 1, none⟩ = some (.string p1) ∧ W.cell? ⟨w.heap.size + 1, 2, none⟩ = some (.int .i64 k1) ∧ W.cell? ⟨w.heap.size + 1, 3, none⟩ = some (.int .i64 o1) ∧ W.cell? ⟨w.heap.size + 1, 4, none⟩ = some (.int .i64 l1) ∧ W.cell? ⟨w.heap.size + 1, 5, none⟩ = some (.int .i64 s1) ∧ Below w1.heap.size w1 W)
    (first | exact ⟨d0, d1, d2, d3, d4, d5, e0, e1, e2, e3, e4, e5, (Below.refl _ _).drew⟩ | exact held_all HK ((Below.refl _ _).drew.trans hb2) | exact held_all HK (((Below.refl _ _).drew.trans ‹Below w1.drew.heap.size w1.drew _›).trans (hb2.mono (Nat.le_trans (Nat.le_refl _) (‹Below w1.drew.heap.size w1.drew _›).size))))
    (first | (go_at_call 11; refine Calls.mono (HXY _).out ?_; rintro e w2 ⟨rfl, hb2⟩) | (go_at_call 11; refine Calls.mono (HYX _).out ?_; rintro e w2 ⟨rfl, hb2⟩))
  all_goals rename_i hS
  all_goals obtain ⟨g0, g1, g2, g3, g4, g5, g6, g7, g8, g9, g10, g11, hbl⟩ := hS
  all_goals clear hb2
  all_goals try clear d0 d1 d2 d3 d4 d5 e0 e1 e2 e3 e4 e5
  all_goals rcases HAB.out with ⟨rfl, rfl, hn | ⟨rfl, hn⟩ | ⟨rfl, rfl, hn⟩ | ⟨rfl, rfl, rfl, hn⟩ | ⟨rfl, rfl, rfl, rfl, hn⟩ | ⟨rfl, rfl, rfl, rfl, rfl, hn⟩⟩ | ⟨rfl, rfl, hn | ⟨rfl, hn⟩ | ⟨rfl, rfl, hn⟩ | ⟨rfl, rfl, rfl, hn⟩ | ⟨rfl, rfl, rfl, rfl, hn⟩ | ⟨rfl, rfl, rfl, rfl, rfl, hn⟩⟩ | ⟨rfl, rfl, rfl, rfl, rfl, rfl, rfl, rfl⟩
  all_goals go_wp2_with fail
  all_goals refine Calls.mono (HXX _).out ?_
  all_goals rintro e w3 ⟨rfl, hb3⟩
  all_goals have hbl3 := hbl.trans (hb3.mono hbl.size)
  all_goals obtain ⟨q0, q1, q2, q3, q4, q5, q6, q7, q8, q9, q10, q11⟩ := HK _ hbl3
  all_goals obtain ⟨r0, r1, r2, r3, r4, r5⟩ := HZ.out.below hbl3 (by omega)
  all_goals go_wp2_with fail
  all_goals first | (go_ret; exact ⟨rfl, HBW.out.trans (hbl3.mono HBW.out.size)⟩) | skip
  all_goals refine Calls.mono (HYZ _).out ?_
  all_goals rintro e w4 ⟨rfl, hb4⟩
  all_goals have hbl4 := hbl3.trans (hb4.mono hbl3.size)
  all_goals obtain ⟨q0, q1, q2, q3, q4, q5, q6, q7, q8, q9, q10, q11⟩ := HK _ hbl4
  all_goals obtain ⟨r0, r1, r2, r3, r4, r5⟩ := HZ.out.below hbl4 (by omega)
  all_goals cases d
  all_goals go_wp2_with fail
  all_goals first | (go_ret; exact ⟨rfl, HBW.out.trans (hbl4.mono HBW.out.size)⟩) | skip
  all_goals refine Calls.mono (HXZ _).out ?_
  all_goals rintro e w5 ⟨rfl, hb5⟩
  all_goals have hbl5 := hbl4.trans (hb5.mono hbl4.size)
  all_goals (have hxz : c = true := HTR.out ha hd)
  all_goals subst hxz
  all_goals go_wp2_with fail
  all_goals (go_ret; exact ⟨rfl, HBW.out.trans (hbl5.mono HBW.out.size)⟩)
end Go.Proofs.Ytfibmpacakjodaa
