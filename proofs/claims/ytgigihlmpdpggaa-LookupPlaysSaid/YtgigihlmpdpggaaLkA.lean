import Derived.Test.YtgigihlmpdpggaaProg
import Derived.Test.YtgigihlmpdpggaaKit
import Derived.WalkKit
import Derived.KernelRfl
import Derived.WalkLawsBesides
import Derived.WalkSpells
import Derived.Lib.Hide
namespace Go.Proofs.Ytgigihlmpdpggaa
open Go.RowKit
theorem isNaNs (x : ByteArray) (w : World) : Calls Try.prog 65 #[.string x] w fun e w' => e = .returned (.bool false) ∧ w = w' := by
  go_enter Try.func65, Try.ntmps65
  go_wp2
  go_ret
  exact ⟨rfl, rfl⟩
theorem isNaNi (x : Int) (w : World) : Calls Try.prog 66 #[.int .i64 x] w fun e w' => e = .returned (.bool false) ∧ w = w' := by
  go_enter Try.func66, Try.ntmps66
  go_wp2
  go_ret
  exact ⟨rfl, rfl⟩
theorem quiet_left {P : Program} {f : FuncId} {args : Array Value} {w : World} {n : Nat} {v : Value}
    (h : Calls P f args (w.drewN n) fun e w' => e = .returned v ∧ w.drewN n = w') : Calls P f args (w.drewN n) fun e w'' => e = .returned v ∧ ∃ m, w'' = w.drewN m :=
  h.mono fun _ _ ⟨he, hm⟩ => ⟨he, n, hm.symm⟩
theorem below_drewN {B : Nat} {a w : World} (h : Below B a w) (n : Nat) : Below B a (w.drewN n) := ⟨h.os, h.tape, h.output, h.size, h.block⟩
def cmpI (x y : Int) : Int := if x < y then -1 else if y < x then 1 else 0
def cmpS (x y : ByteArray) : Int := if Op.bytesLess x.toList y.toList then -1 else if (!x.toList == y.toList) then 1 else 0
theorem ret_int {k : IntKind} {a b : Int} (h : a = b) : Ending.returned (.int k a) = .returned (.int k b) := by rw [h]
theorem cmp_i (x y : Int) (w : World) : Calls Try.prog 48 #[.int .i64 x, .int .i64 y] w fun e w' => e = .returned (.int .i64 (cmpI x y)) ∧ w = w' := by
  have h1 : x < y → cmpI x y = -1 := fun h => by simp [cmpI, h]
  have h2 : ¬ x < y → y < x → cmpI x y = 1 := fun h h' => by simp [cmpI, h, h']
  have h3 : ¬ x < y → ¬ y < x → cmpI x y = 0 := fun h h' => by simp [cmpI, h, h']
  generalize cmpI x y = c at *
  have H1 := Lib.hid h1
  have H2 := Lib.hid h2
  have H3 := Lib.hid h3
  clear h1 h2 h3
  by_cases a : x < y
  · go_enter Try.func48, Try.ntmps48
    go_wp2_with (go_at_call 66; refine (isNaNi _ _).mono ?_; rintro e w' ⟨rfl, rfl⟩)
    go_ret
    exact ⟨ret_int (H1.out a).symm, rfl⟩
  · by_cases b : y < x
    · go_enter Try.func48, Try.ntmps48
      go_wp2_with (go_at_call 66; refine (isNaNi _ _).mono ?_; rintro e w' ⟨rfl, rfl⟩)
      go_ret
      exact ⟨ret_int (H2.out a b).symm, rfl⟩
    · go_enter Try.func48, Try.ntmps48
      go_wp2_with (go_at_call 66; refine (isNaNi _ _).mono ?_; rintro e w' ⟨rfl, rfl⟩)
      go_ret
      exact ⟨ret_int (H3.out a b).symm, rfl⟩
theorem cmp_s (x y : ByteArray) (w : World) : Calls Try.prog 47 #[.string x, .string y] w fun e w' => e = .returned (.int .i64 (cmpS x y)) ∧ w = w' := by
  cases a : Op.bytesLess x.toList y.toList
  · cases b : (!x.toList == y.toList)
    · have H : Hid (cmpS x y = 0) := by simp only [cmpS, a, b]; rfl
      go_enter Try.func47, Try.ntmps47
      go_wp2_with (go_at_call 65; refine (isNaNs _ _).mono ?_; rintro e w' ⟨rfl, rfl⟩)
      go_ret
      exact ⟨ret_int H.out.symm, rfl⟩
    · have H : Hid (cmpS x y = 1) := by simp only [cmpS, a, b]; rfl
      go_enter Try.func47, Try.ntmps47
      go_wp2_with (go_at_call 65; refine (isNaNs _ _).mono ?_; rintro e w' ⟨rfl, rfl⟩)
      go_ret
      exact ⟨ret_int H.out.symm, rfl⟩
  · have H : Hid (cmpS x y = -1) := by simp only [cmpS, a]; rfl
    go_enter Try.func47, Try.ntmps47
    go_wp2_with (go_at_call 65; refine (isNaNs _ _).mono ?_; rintro e w' ⟨rfl, rfl⟩)
    go_ret
    exact ⟨ret_int H.out.symm, rfl⟩
/-- The first that is not 0. -/
def orI : List Int → Int
  | [] => 0
  | x :: l => if x = 0 then orI l else x
theorem orI_drop (zs : List Int) (k : Nat) (h : k < zs.length) : orI (zs.drop k) = if zs.getD k 0 = 0 then orI (zs.drop (k + 1)) else zs.getD k 0 := by
  rw [List.drop_eq_getElem_cons h]
  simp [orI, h]
set_option maxHeartbeats 400000 in
theorem or_any (b : Nat) (zs : List Int) (w : World) (hn : zs.length ≤ 100) (hc : ∀ j, j < zs.length → w.cell? ⟨b, j, none⟩ = some (.int .i64 (zs.getD j 0))) :
    Calls Try.prog 46 #[.slice (some ⟨b, 0, none⟩) zs.length zs.length] w fun e w' => e = .returned (.int .i64 (orI zs)) ∧ w = w' := by
  go_enter Try.func46, Try.ntmps46
  go_wp2
  go_loop [8] (fun i => ∃ k : Nat, k ≤ zs.length ∧ i = .int .i64 k ∧ orI zs = orI (zs.drop k)) (fun i => zs.length - (intOf i).toNat)
  case atStart => exact ⟨0, Nat.zero_le _, rfl, rfl⟩
  case round =>
    obtain ⟨k, hk, rfl, ho⟩ := hrel
    by_cases hlt : k < zs.length
    · have h1 := hc k hlt
      have ho2 := orI_drop zs k hlt
      generalize zs.getD k 0 = z at *
      clear hc
      by_cases hz : z = 0
      · subst hz
        have HO := Lib.hid (ho.trans ho2)
        clear ho ho2
        go_wp2
        go_round
        case rel => exact ⟨k + 1, by omega, by go_num, by rw [HO.out]; rfl⟩
        case measure => simp [intOf]; omega
      · have HO := Lib.hid (ho.trans ho2)
        have hzz : (z == 0) = false := by simpa using hz
        have HZ := Lib.hid hz
        clear ho ho2 hz
        go_wp2
        go_ret
        exact ⟨ret_int (by rw [HO.out, if_neg HZ.out]), rfl⟩
    · have e : zs.drop k = [] := List.drop_eq_nil_of_le (by omega)
      have HO := Lib.hid (ho.trans (congrArg orI e))
      clear ho e hc
      go_wp2
      go_ret
      exact ⟨ret_int (by rw [HO.out]; rfl), rfl⟩
/-- An item, as the program has it: six cells. -/
structure It where
  id : ByteArray
  pack : ByteArray
  kind : Int
  off : Int
  long : Int
  size : Int
abbrev It.val (x : It) : Value := .agg #[.string x.id, .string x.pack, .int .i64 x.kind, .int .i64 x.off, .int .i64 x.long, .int .i64 x.size]
def It.cells (x : It) : List Value := [.string x.id, .string x.pack, .int .i64 x.kind, .int .i64 x.off, .int .i64 x.long, .int .i64 x.size]
def It.cmps (x y : It) : List Int := [cmpS x.id y.id, cmpS x.pack y.pack, cmpI x.off y.off, cmpI x.long y.long, cmpI x.size y.size, cmpI x.kind y.kind]
def It.ord (x y : It) : Int := orI (x.cmps y)
theorem cells_new (w : World) (b : Nat) (zs : List Int) (t : TypeId) (hb : w.heap.size = b) : ∀ j, j < zs.length → (w.alloc (.cells (zs.map (Value.int .i64)).toArray t)).cell? ⟨b, j, none⟩ = some (.int .i64 (zs.getD j 0)) := by
  intro j hj
  rw [World.cell?_alloc_at _ _ _ _ (by simpa using hb.symm)]
  simp [hj]
set_option maxHeartbeats 1000000 in
set_option maxRecDepth 100000 in
theorem order_any (x y : It) (w : World) : Calls Try.prog 25 #[x.val, y.val] w fun e w' => e = .returned (.int .i64 (x.ord y)) ∧ Below w.heap.size w w' := by
  obtain ⟨i0, p0, k0, o0, l0, s0⟩ := x
  obtain ⟨i1, p1, k1, o1, l1, s1⟩ := y
  go_enter Try.func25, Try.ntmps25
  go_wp2
  refine Kit.wp_region_tail_lit 40 (by kernel_rfl) (by kernel_rfl) ?_
  simp only [List.take_succ_cons, List.take_zero, List.drop_succ_cons, List.drop_zero]
  repeat (go_big_quiet_step (first | (go_at_call 47; exact quiet_left (cmp_s _ _ _)) | (go_at_call 48; exact quiet_left (cmp_i _ _ _))))
  refine wpQuiet_nil ?_
  rintro _ ⟨nq, rfl⟩
  go_wp2_with fail
  refine (or_any (w.heap.size + 1 + 1) [cmpS i0 i1, cmpS p0 p1, cmpI o0 o1, cmpI l0 l1, cmpI s0 s1, cmpI k0 k1] _ (by simp) (cells_new _ _ [cmpS i0 i1, cmpS p0 p1, cmpI o0 o1, cmpI l0 l1, cmpI s0 s1, cmpI k0 k1] _ (by simp))).mono ?_
  rintro e w' ⟨rfl, rfl⟩
  go_wp2
  go_ret
  refine ⟨rfl, ?_⟩
  exact ((((Below.refl _ _).alloc (Nat.le_refl _) _).alloc (by simp) _).trans (below_drewN (Below.refl _ _) _)).alloc (by simp; omega) _
end Go.Proofs.Ytgigihlmpdpggaa
