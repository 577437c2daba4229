import Derived.Test.YtgigihlmpdpggaaLkB
import Derived.Deep.LoopGhost
import Derived.Deep.RegionHeld3
namespace Go.Proofs.Ytgigihlmpdpggaa
open Go.RowKit
def flat (xs : List It) : List Value := xs.flatMap It.cells
theorem flat_length (xs : List It) : (flat xs).length = xs.length * 6 := by
  induction xs with
  | nil => rfl
  | cons x l ih => simp only [flat, List.flatMap_cons, List.length_append, List.length_cons] at *; rw [ih]; simp [It.cells]; omega
theorem flat_get (xs : List It) (i j : Nat) (x : It) (h : xs[i]? = some x) (hj : j < 6) : (flat xs)[i * 6 + j]? = x.cells[j]? := by
  induction xs generalizing i with
  | nil => simp at h
  | cons y l ih =>
    cases i with
    | zero =>
      simp at h
      subst h
      simp only [flat, List.flatMap_cons, Nat.zero_mul, Nat.zero_add]
      rw [List.getElem?_append_left (by simp [It.cells]; omega)]
    | succ i =>
      simp at h
      have := ih i h
      simp only [flat, List.flatMap_cons]
      rw [List.getElem?_append_right (by simp [It.cells]; omega)]
      rw [show (i + 1) * 6 + j - (It.cells y).length = i * 6 + j by simp [It.cells]; omega]
      exact this
/-- The cells of the i-th item of a list. -/
structure CellsAt (w : World) (g o : Nat) (x : It) : Prop where
  c0 : w.cell? ⟨g, o, none⟩ = some (.string x.id)
  c1 : w.cell? ⟨g, o + 1, none⟩ = some (.string x.pack)
  c2 : w.cell? ⟨g, o + 2, none⟩ = some (.int .i64 x.kind)
  c3 : w.cell? ⟨g, o + 3, none⟩ = some (.int .i64 x.off)
  c4 : w.cell? ⟨g, o + 4, none⟩ = some (.int .i64 x.long)
  c5 : w.cell? ⟨g, o + 5, none⟩ = some (.int .i64 x.size)
/-- The slice value v holds the items xs, in a block of its own. -/
abbrev Row (w : World) (v : Value) (xs : List It) : Prop := w.ownsRow 0 32 6 v xs.length (flat xs)
theorem add_zero' (g j : Nat) : (⟨g, 0, none⟩ : Addr).add j = ⟨g, j, none⟩ := by unfold Addr.add; split <;> simp_all
theorem Row.at_ {w : World} {v : Value} {xs : List It} (h : Row w v xs) {g : Nat} (hg : v.ownBlock = some g) {i : Nat} {x : It} (hx : xs[i]? = some x) : CellsAt w g (i * 6) x := by
  have hc := fun j (hj : j < 6) u (hu : x.cells[j]? = some u) => h.cells hg (i * 6 + j) u ((flat_get xs i j x hx hj).trans hu)
  simp only [add_zero'] at hc
  exact ⟨hc 0 (by omega) _ rfl, hc 1 (by omega) _ rfl, hc 2 (by omega) _ rfl, hc 3 (by omega) _ rfl, hc 4 (by omega) _ rfl, hc 5 (by omega) _ rfl⟩
theorem Row.form' {w : World} {v : Value} {xs : List It} (h : Row w v xs) : ∃ cap, (v = .slice none 0 0 ∧ xs = []) ∨ ∃ g, v = .slice (some ⟨g, 0, none⟩) xs.length cap ∧ v.ownBlock = some g ∧ g < w.heap.size ∧ xs.length ≤ cap ∧ cap ≤ maxLen := by
  rcases h.2 with ⟨rfl, hn⟩ | ⟨g, cap, cur, rfl, _, hh, h1, h2, _⟩
  · exact ⟨0, .inl ⟨rfl, List.eq_nil_of_length_eq_zero hn⟩⟩
  · exact ⟨cap, .inr ⟨g, rfl, rfl, (Array.getElem?_eq_some_iff.1 hh).1, h1, h2⟩⟩
theorem CellsAt.below {w w' : World} {B g o : Nat} {x : It} (h : CellsAt w g o x) (hb : Below B w w') (hg : g < B) : CellsAt w' g o x :=
  ⟨(hb.cell (p := ⟨g, _, none⟩) hg).trans h.c0, (hb.cell (p := ⟨g, _, none⟩) hg).trans h.c1, (hb.cell (p := ⟨g, _, none⟩) hg).trans h.c2, (hb.cell (p := ⟨g, _, none⟩) hg).trans h.c3, (hb.cell (p := ⟨g, _, none⟩) hg).trans h.c4, (hb.cell (p := ⟨g, _, none⟩) hg).trans h.c5⟩
theorem two_cells {w : World} {b c g o : Nat} {t x : It} (h : CellsAt w b c t) (k : CellsAt w g o x) :
    w.cell? ⟨b, c, none⟩ = some (.string t.id) ∧ w.cell? ⟨b, c + 1, none⟩ = some (.string t.pack) ∧ w.cell? ⟨b, c + 2, none⟩ = some (.int .i64 t.kind) ∧ w.cell? ⟨b, c + 3, none⟩ = some (.int .i64 t.off) ∧ w.cell? ⟨b, c + 4, none⟩ = some (.int .i64 t.long) ∧ w.cell? ⟨b, c + 5, none⟩ = some (.int .i64 t.size) ∧
      w.cell? ⟨g, o, none⟩ = some (.string x.id) ∧ w.cell? ⟨g, o + 1, none⟩ = some (.string x.pack) ∧ w.cell? ⟨g, o + 2, none⟩ = some (.int .i64 x.kind) ∧ w.cell? ⟨g, o + 3, none⟩ = some (.int .i64 x.off) ∧ w.cell? ⟨g, o + 4, none⟩ = some (.int .i64 x.long) ∧ w.cell? ⟨g, o + 5, none⟩ = some (.int .i64 x.size) :=
  ⟨h.c0, h.c1, h.c2, h.c3, h.c4, h.c5, k.c0, k.c1, k.c2, k.c3, k.c4, k.c5⟩
theorem CellsAt.new (w : World) (x : It) : CellsAt (w.alloc (.cells #[.string x.id, .string x.pack, .int .i64 x.kind, .int .i64 x.off, .int .i64 x.long, .int .i64 x.size] 32)) w.heap.size 0 x := by
  constructor <;> rw [World.cell?_alloc_at _ _ _ _ rfl] <;> rfl
set_option maxHeartbeats 1000000 in
set_option maxRecDepth 100000 in
theorem bs_items (g cap r : Nat) (xs : List It) (t : It) (w : World) (hn : xs.length ≤ 65536) (hg : g < w.heap.size) (hc : ∀ i x, xs[i]? = some x → CellsAt w g (i * 6) x)
    (hr : r ≤ xs.length) (hlo : ∀ i x, i < r → xs[i]? = some x → x.ord t < 0) (hhi : ∀ i x, r ≤ i → xs[i]? = some x → 0 ≤ x.ord t) :
    Calls Try.prog 24 #[.slice (some ⟨g, 0, none⟩) xs.length cap, t.val, .func (.func 25) #[] #[]] w fun e w' =>
      e = .returned (.tuple #[.int .i64 r, .bool ((xs[r]?).any fun x => x.ord t == 0)]) ∧ Below w.heap.size w w' := by
  obtain ⟨i0, p0, k0, o0, l0, s0⟩ := t
  have HLO := Lib.hid hlo
  have HHI := Lib.hid hhi
  clear hlo hhi
  go_enter Try.func24, Try.ntmps24
  go_wp2
  go_loopw [9, 10] (fun a b wr => ∃ i j : Nat, a = .int .i64 i ∧ b = .int .i64 j ∧ i ≤ r ∧ r ≤ j ∧ j ≤ xs.length ∧ Below (w.heap.size + 1) (w.alloc (.cells #[.string i0, .string p0, .int .i64 k0, .int .i64 o0, .int .i64 l0, .int .i64 s0] 32)) wr) (fun a b _ => (intOf b).toNat - (intOf a).toNat)
  case atStart => exact ⟨0, xs.length, rfl, rfl, by omega, hr, by omega, Below.refl _ _⟩
  case round =>
    obtain ⟨i, j, rfl, rfl, hir, hrj, hjn, hb⟩ := hrel
    have t0 : CellsAt wr w.heap.size 0 ⟨i0, p0, k0, o0, l0, s0⟩ := (CellsAt.new w ⟨i0, p0, k0, o0, l0, s0⟩).below hb (by omega)
    obtain ⟨d0, d1, d2, d3, d4, d5⟩ := t0
    by_cases hij : i < j
    · obtain ⟨h, hh⟩ : ∃ h, (i + j) / 2 = h := ⟨_, rfl⟩
      obtain ⟨x, hx⟩ : ∃ x, xs[h]? = some x := ⟨_, List.getElem?_eq_getElem (by omega)⟩
      have hcx : CellsAt wr g (h * 6) x := ((hc h x hx).below (((Below.refl _ _).alloc (Nat.le_refl _) _).trans (hb.mono (by omega))) hg)
      obtain ⟨e0, e1, e2, e3, e4, e5⟩ := hcx
      have HX := Lib.hid hx
      have HB := Lib.hid hb
      have hh1 : i ≤ h := by omega
      have hh2 : h < j := by omega
      have hh3 : ((i : Int) + (j : Int)) / 2 = (h : Int) := by omega
      have HH := Lib.hid hh
      clear hh hb hx hc
      obtain ⟨o, ho⟩ : ∃ o, x.ord ⟨i0, p0, k0, o0, l0, s0⟩ = o := ⟨_, rfl⟩
      have HC := fun W => order_any x ⟨i0, p0, k0, o0, l0, s0⟩ W
      rw [ho] at HC
      have HC' := fun W => Lib.hid (HC W)
      have hlt : o < 0 ∧ h < r ∨ 0 ≤ o ∧ r ≤ h := by
        by_cases c : h < r
        · exact .inl ⟨by rw [← ho]; exact HLO.out h x c HX.out, c⟩
        · exact .inr ⟨by rw [← ho]; exact HHI.out h x (by omega) HX.out, by omega⟩
      clear HC ho
      rcases hlt with ⟨ho, hhr⟩ | ⟨ho, hhr⟩
      · go_wp2
        refine Kit.wp_region_tail_lit 6 (by kernel_rfl) (by kernel_rfl) ?_
        simp only [List.take_succ_cons, List.take_zero, List.drop_succ_cons, List.drop_zero]
        repeat (go_big_quiet_step (fail))
        refine wpQuiet_nil ?_
        rintro _ ⟨nq, rfl⟩
        go_wp2_with fail
        refine Calls.mono (HC' _).out ?_
        rintro e w1 ⟨rfl, hb1⟩
        have HB1 := Lib.hid hb1
        clear hb1 HC'
        go_wp2
        go_roundw
        case rel => exact ⟨h + 1, j, by go_num, rfl, by omega, by omega, by omega, (below_drewN HB.out nq).trans (HB1.out.mono (by have := HB.out.size; simp at this ⊢; omega))⟩
        case measure => simp [intOf]; omega
      · go_wp2
        refine Kit.wp_region_tail_lit 6 (by kernel_rfl) (by kernel_rfl) ?_
        simp only [List.take_succ_cons, List.take_zero, List.drop_succ_cons, List.drop_zero]
        repeat (go_big_quiet_step (fail))
        refine wpQuiet_nil ?_
        rintro _ ⟨nq, rfl⟩
        go_wp2_with fail
        refine Calls.mono (HC' _).out ?_
        rintro e w1 ⟨rfl, hb1⟩
        have HB1 := Lib.hid hb1
        clear hb1 HC'
        go_wp2
        go_roundw
        case rel => exact ⟨i, h, rfl, rfl, by omega, by omega, by omega, (below_drewN HB.out nq).trans (HB1.out.mono (by have := HB.out.size; simp at this ⊢; omega))⟩
        case measure => simp [intOf]; omega
    · have hir' : i = r := by omega
      subst hir'
      by_cases hin : i < xs.length
      · obtain ⟨x, hx⟩ : ∃ x, xs[i]? = some x := ⟨_, List.getElem?_eq_getElem hin⟩
        have hcx : CellsAt wr g (i * 6) x := ((hc i x hx).below (((Below.refl _ _).alloc (Nat.le_refl _) _).trans (hb.mono (by omega))) hg)
        obtain ⟨e0, e1, e2, e3, e4, e5⟩ := hcx
        obtain ⟨o, ho⟩ : ∃ o, x.ord ⟨i0, p0, k0, o0, l0, s0⟩ = o := ⟨_, rfl⟩
        have HC := fun W => order_any x ⟨i0, p0, k0, o0, l0, s0⟩ W
        rw [ho] at HC
        have HC' := fun W => Lib.hid (HC W)
        have HR : Hid (((xs[i]?).any fun x => x.ord ⟨i0, p0, k0, o0, l0, s0⟩ == 0) = (o == 0)) := by
          rw [hx, ← ho]; rfl
        have hbs : w.heap.size < wr.heap.size := by have := hb.size; simp at this; omega
        have hgs : g < wr.heap.size := by omega
        have HB := Lib.hid hb
        clear hb hc HC ho hx
        go_wp2
        go_region_held3 (fun w' => w'.cell? ⟨w.heap.size, 0, none⟩ = some (.string i0) ∧ w'.cell? ⟨w.heap.size, 0 + 1, none⟩ = some (.string p0) ∧ w'.cell? ⟨w.heap.size, 0 + 2, none⟩ = some (.int .i64 k0) ∧ w'.cell? ⟨w.heap.size, 0 + 3, none⟩ = some (.int .i64 o0) ∧ w'.cell? ⟨w.heap.size, 0 + 4, none⟩ = some (.int .i64 l0) ∧ w'.cell? ⟨w.heap.size, 0 + 5, none⟩ = some (.int .i64 s0) ∧
          w'.cell? ⟨g, i * 6, none⟩ = some (.string x.id) ∧ w'.cell? ⟨g, i * 6 + 1, none⟩ = some (.string x.pack) ∧ w'.cell? ⟨g, i * 6 + 2, none⟩ = some (.int .i64 x.kind) ∧ w'.cell? ⟨g, i * 6 + 3, none⟩ = some (.int .i64 x.off) ∧ w'.cell? ⟨g, i * 6 + 4, none⟩ = some (.int .i64 x.long) ∧ w'.cell? ⟨g, i * 6 + 5, none⟩ = some (.int .i64 x.size))
          (first | exact ⟨d0, d1, d2, d3, d4, d5, e0, e1, e2, e3, e4, e5⟩ | exact two_cells (b := w.heap.size) (c := 0) (g := g) (o := i * 6) (x := x) (t := ⟨i0, p0, k0, o0, l0, s0⟩) (CellsAt.below (w := wr.drew) ⟨d0, d1, d2, d3, d4, d5⟩ hb1 hbs) (CellsAt.below (w := wr.drew) ⟨e0, e1, e2, e3, e4, e5⟩ hb1 hgs)) (first | (go_at_call 25; refine Calls.mono (HC' _).out ?_; rintro e w1 ⟨rfl, hb1⟩))
        rename_i hb1 _
        have HB1 := Lib.hid hb1
        clear hb1 HC'
        go_wp2
        go_ret2
        refine ⟨by rw [HR.out]; rfl, ?_⟩
        exact (((Below.refl _ _).alloc (Nat.le_refl _) _).trans ((HB.out.mono (by omega)).trans ((Below.refl _ _).drew.trans (HB1.out.mono (by show _ ≤ wr.heap.size; omega)))))
      · have HR : Hid (((xs[i]?).any fun x => x.ord ⟨i0, p0, k0, o0, l0, s0⟩ == 0) = false) := by
          rw [List.getElem?_eq_none (by omega)]; rfl
        have HB := Lib.hid hb
        have hin2 : decide ((i : Int) < (xs.length : Int)) = false := by simp; omega
        clear hb hc
        go_wp2
        go_quiet (fail)
        go_wp2
        go_ret2
        refine ⟨by rw [HR.out]; rfl, ?_⟩
        exact below_drewN (((Below.refl _ _).alloc (Nat.le_refl _) _).trans (HB.out.mono (by omega))) _
end Go.Proofs.Ytgigihlmpdpggaa
