import Derived.Test.YtgigihlmpdpggaaQa
import Derived.BigRegion
import Derived.Deep.DeepCutAuto
namespace Go.Proofs.Ytgigihlmpdpggaa
open Go.RowKit
theorem cmpS_less (x y : ByteArray) : decide (cmpS x y < 0) = Op.bytesLess x.toList y.toList := by
  unfold cmpS
  cases Op.bytesLess x.toList y.toList
  · cases (!x.toList == y.toList) <;> simp
  · simp
theorem cmpS_ne {x y : ByteArray} (h : ¬ x.toList = y.toList) : cmpS x y ≠ 0 := fun e => h (by rw [cmpS_zero e])
theorem cmpS_self (x : ByteArray) : cmpS x x = 0 := by have := cmpS_pre.anti x x; omega
theorem cmpI_less (x y : Int) : decide (cmpI x y < 0) = decide (x < y) := by
  unfold cmpI
  split
  · simp [*]
  · split <;> simp <;> omega
theorem cmpI_self (x : Int) : cmpI x x = 0 := by have := cmpI_pre.anti x x; omega
theorem cmpI_ne {x y : Int} (h : ¬ x = y) : cmpI x y ≠ 0 := fun e => h (cmpI_zero e)
theorem less_0 {i j p q : ByteArray} {a b c d e f g h : Int} (hn : ¬ i.toList = j.toList) : lessB ⟨i, p, a, b, c, d⟩ ⟨j, q, e, f, g, h⟩ = Op.bytesLess i.toList j.toList := by
  rw [← cmpS_less]; simp only [lessB, ord_eq, thenC, if_neg (cmpS_ne hn)]
theorem less_1 {i p q : ByteArray} {a b c d e f g h : Int} (hn : ¬ p.toList = q.toList) : lessB ⟨i, p, a, b, c, d⟩ ⟨i, q, e, f, g, h⟩ = Op.bytesLess p.toList q.toList := by
  rw [← cmpS_less]; simp only [lessB, ord_eq, thenC, if_neg (cmpS_ne hn), cmpS_self, if_true]
theorem less_2 {i p : ByteArray} {a b c d e f g h : Int} (hn : ¬ b = f) : lessB ⟨i, p, a, b, c, d⟩ ⟨i, p, e, f, g, h⟩ = decide (b < f) := by
  rw [← cmpI_less]; simp only [lessB, ord_eq, thenC, if_neg (cmpI_ne hn), cmpS_self, if_true]
theorem less_3 {i p : ByteArray} {a b c d e g h : Int} (hn : ¬ c = g) : lessB ⟨i, p, a, b, c, d⟩ ⟨i, p, e, b, g, h⟩ = decide (c < g) := by
  rw [← cmpI_less]; simp only [lessB, ord_eq, thenC, if_neg (cmpI_ne hn), cmpS_self, cmpI_self, if_true]
theorem less_4 {i p : ByteArray} {a b c d e h : Int} (hn : ¬ d = h) : lessB ⟨i, p, a, b, c, d⟩ ⟨i, p, e, b, c, h⟩ = decide (d < h) := by
  rw [← cmpI_less]; simp only [lessB, ord_eq, thenC, if_neg (cmpI_ne hn), cmpS_self, cmpI_self, if_true]
theorem less_5 {i p : ByteArray} {a b c d e : Int} : lessB ⟨i, p, a, b, c, d⟩ ⟨i, p, e, b, c, d⟩ = decide (a < e) := by
  rw [← cmpI_less]; simp only [lessB, ord_eq, thenC, cmpS_self, cmpI_self, if_true]
theorem ret_bool {a b : Bool} (h : a = b) : Ending.returned (.bool a) = .returned (.bool b) := by rw [h]
/-- A place in a block of its own. -/
structure PlaceAt (w : World) (g o : Nat) (x : It) : Prop where
  c0 : w.cell? ⟨g, o, none⟩ = some (.string x.pack)
  c1 : w.cell? ⟨g, o + 1, none⟩ = some (.int .i64 x.kind)
  c2 : w.cell? ⟨g, o + 2, none⟩ = some (.int .i64 x.off)
  c3 : w.cell? ⟨g, o + 3, none⟩ = some (.int .i64 x.long)
  c4 : w.cell? ⟨g, o + 4, none⟩ = some (.int .i64 x.size)
abbrev It.placeObj (x : It) : Obj := .cells #[.string x.pack, .int .i64 x.kind, .int .i64 x.off, .int .i64 x.long, .int .i64 x.size] 30
theorem PlaceAt.block {w w' : World} {g o : Nat} {x : It} (h : PlaceAt w g o x) (hk : w'.heap[g]? = w.heap[g]?) : PlaceAt w' g o x :=
  ⟨(World.cell?_of_block (a := ⟨g, _, none⟩) hk).trans h.c0, (World.cell?_of_block (a := ⟨g, _, none⟩) hk).trans h.c1, (World.cell?_of_block (a := ⟨g, _, none⟩) hk).trans h.c2, (World.cell?_of_block (a := ⟨g, _, none⟩) hk).trans h.c3, (World.cell?_of_block (a := ⟨g, _, none⟩) hk).trans h.c4⟩
theorem PlaceAt.of {w : World} {g : Nat} {x : It} {k : Nat × Nat} (h : w.heap[g]? = some (.cells #[.string x.pack, .int .i64 x.kind, .int .i64 x.off, .int .i64 x.long, .int .i64 x.size] 30 k)) : PlaceAt w g 0 x := by
  constructor <;> (rw [World.cell?, h]; rfl)
theorem places_new (W0 W : World) (x y : It) (hW : W = ((W0.alloc x.placeObj).alloc y.placeObj).drew) : PlaceAt W W0.heap.size 0 x ∧ PlaceAt W (W0.heap.size + 1) 0 y ∧ Below W0.heap.size W0 W := by
  have h1 : W.heap[W0.heap.size]? = some (.cells #[.string x.pack, .int .i64 x.kind, .int .i64 x.off, .int .i64 x.long, .int .i64 x.size] 30 (0, 0)) := by
    rw [hW]
    show ((W0.alloc _).alloc _).heap[W0.heap.size]? = _
    rw [Below.heap_alloc _ _ _ (by simp)]; exact heap_alloc_new W0 _
  have h2 : W.heap[W0.heap.size + 1]? = some (.cells #[.string y.pack, .int .i64 y.kind, .int .i64 y.off, .int .i64 y.long, .int .i64 y.size] 30 (0, 0)) := by
    rw [hW]
    have := heap_alloc_new (W0.alloc x.placeObj) y.placeObj
    rw [World.size_alloc] at this
    exact this
  exact ⟨.of h1, .of h2, by rw [hW]; exact (((Below.refl _ _).alloc (Nat.le_refl _) _).alloc (by simp) _).drew⟩
set_option maxHeartbeats 4000000 in
set_option maxRecDepth 100000 in
theorem rless_any (x y : It) (w : World) : Calls Try.prog 64 #[x.val, y.val] w fun e w' => e = .returned (.bool (lessB x y)) ∧ Below w.heap.size w w' := by
  by_cases h1 : x.id.toList = y.id.toList
  · have hid := toList_inj h1
    obtain ⟨i0, p0, k0, o0, l0, s0⟩ := x
    obtain ⟨i1, p1, k1, o1, l1, s1⟩ := y
    simp only at hid
    subst hid
    clear h1
    go_enter Try.func64, Try.ntmps64
    go_upto_region 3 with fail
    go_cut [5, 6] (fun p q wx => ∃ gp gq, p = .pointer (some ⟨gp, 0, none⟩) ∧ q = .pointer (some ⟨gq, 0, none⟩) ∧ PlaceAt wx gp 0 ⟨i0, p0, k0, o0, l0, s0⟩ ∧ PlaceAt wx gq 0 ⟨i0, p1, k1, o1, l1, s1⟩ ∧ Below w.heap.size w wx)
    case first =>
      go_region
      all_goals go_wp2
      all_goals go_meet
      · case rel =>
          obtain ⟨r1, r2, r3⟩ := places_new ((w.alloc (.cells #[.string i0, .string p0, .int .i64 k0, .int .i64 o0, .int .i64 l0, .int .i64 s0] 32)).alloc (.cells #[.string i0, .string p1, .int .i64 k1, .int .i64 o1, .int .i64 l1, .int .i64 s1] 32)) _ ⟨i0, p0, k0, o0, l0, s0⟩ ⟨i0, p1, k1, o1, l1, s1⟩ rfl
          simp only [World.size_alloc] at r1 r2
          exact ⟨_, _, rfl, rfl, r1, r2, (((Below.refl _ _).alloc (Nat.le_refl _) _).alloc (by simp) _).trans (r3.mono (by simp; omega))⟩
      · case rel =>
          obtain ⟨r1, r2, r3⟩ := places_new ((w.alloc (.cells #[.string i0, .string p0, .int .i64 k0, .int .i64 o0, .int .i64 l0, .int .i64 s0] 32)).alloc (.cells #[.string i0, .string p1, .int .i64 k1, .int .i64 o1, .int .i64 l1, .int .i64 s1] 32)) _ ⟨i0, p1, k1, o1, l1, s1⟩ ⟨i0, p0, k0, o0, l0, s0⟩ rfl
          simp only [World.size_alloc] at r1 r2
          exact ⟨_, _, rfl, rfl, r2, r1, (((Below.refl _ _).alloc (Nat.le_refl _) _).alloc (by simp) _).trans (r3.mono (by simp; omega))⟩
    case rest =>
      obtain ⟨gp, gq, rfl, rfl, ⟨a0, a1, a2, a3, a4⟩, ⟨b0, b1, b2, b3, b4⟩, hb⟩ := hcut
      have HB := Lib.hid hb
      clear hb
      simp only [Nat.zero_add] at a1 a2 a3 a4 b1 b2 b3 b4
      by_cases h2 : p0.toList = p1.toList
      · obtain rfl := toList_inj h2
        clear h2
        by_cases h3 : o0 = o1
        · subst h3
          by_cases h4 : l0 = l1
          · subst h4
            by_cases h5 : s0 = s1
            · subst h5
              have HL := Lib.hid (@less_5 i0 p0 k0 o0 l0 s0 k1)
              go_wp2
              go_ret
              exact ⟨ret_bool HL.out.symm, HB.out⟩
            · have HL := Lib.hid (@less_4 i0 p0 k0 o0 l0 s0 k1 s1 h5)
              have e1 : (s0 == s1) = false := by simpa using h5
              have e2 : (s0 != s1) = true := by simpa using h5
              clear h5
              go_wp2
              go_ret
              exact ⟨ret_bool HL.out.symm, HB.out⟩
          · have HL := Lib.hid (@less_3 i0 p0 k0 o0 l0 s0 k1 l1 s1 h4)
            have e1 : (l0 == l1) = false := by simpa using h4
            have e2 : (l0 != l1) = true := by simpa using h4
            clear h4
            go_wp2
            go_ret
            exact ⟨ret_bool HL.out.symm, HB.out⟩
        · have HL := Lib.hid (@less_2 i0 p0 k0 o0 l0 s0 k1 o1 l1 s1 h3)
          have e1 : (o0 == o1) = false := by simpa using h3
          have e2 : (o0 != o1) = true := by simpa using h3
          clear h3
          go_wp2
          go_ret
          exact ⟨ret_bool HL.out.symm, HB.out⟩
      · have HL := Lib.hid (@less_1 i0 p0 p1 k0 o0 l0 s0 k1 o1 l1 s1 h2)
        have e1 : (!p0.toList == p1.toList) = true := by simpa using h2
        have e2 : (p0.toList == p1.toList) = false := by simpa using h2
        clear h2
        go_wp2
        go_ret
        exact ⟨ret_bool HL.out.symm, HB.out⟩
  · have HL := Lib.hid (@less_0 x.id y.id x.pack y.pack x.kind x.off x.long x.size y.kind y.off y.long y.size h1)
    obtain ⟨i0, p0, k0, o0, l0, s0⟩ := x
    obtain ⟨i1, p1, k1, o1, l1, s1⟩ := y
    have h2 : (!i0.toList == i1.toList) = true := by simpa using h1
    have h3 : (i0.toList == i1.toList) = false := by simpa using h1
    go_enter Try.func64, Try.ntmps64
    go_wp2
    go_ret
    exact ⟨ret_bool HL.out.symm, ((Below.refl _ _).alloc (Nat.le_refl _) _).alloc (by simp) _⟩
end Go.Proofs.Ytgigihlmpdpggaa
