import Derived.Test.YtgigihlmpdpggaaLkP
import Derived.Test.YtgigihlmpdpggaaShelf
namespace Go.Proofs.Ytgigihlmpdpggaa
open Go.RowKit
def am (x n : Int) : Int := (Int.tmod x n + n) % n
theorem am_range (x n : Int) (hn : 0 < n) : 0 ≤ am x n ∧ am x n < n := ⟨Int.emod_nonneg _ (by omega), Int.emod_lt_of_pos _ hn⟩
theorem among_any (x n : Int) (w : World) (hn : 0 < n) (hn2 : n ≤ 1000) :
    Calls Try.prog 17 #[.int .i64 x, .int .i64 n] w fun e w' => e = .returned (.int .i64 (am x n)) ∧ w' = w := by
  have h1 := Int.lt_tmod_of_pos x hn
  have h2 := Int.tmod_lt_of_pos x hn
  obtain ⟨h3, h4⟩ := am_range x n hn
  unfold am at *
  have hne : n ≠ 0 := by omega
  go_enter Try.func17, Try.ntmps17
  go_wp2
  go_ret
  exact ⟨rfl, rfl⟩
/-- 32 times a byte. -/
def rep (n : Int) : ByteArray := ⟨(List.replicate 32 (UInt8.ofNat n.toNat)).toArray⟩
def itemOf (i p o : Int) : It := ⟨rep (am i 20 * 13), rep (97 + am p 5), 1, am o 100, 5, 3⟩
theorem conv_one (w : World) (g c : Nat) (b : Int) (h0 : 0 ≤ b) (h1 : b < 256) (hc : w.cell? ⟨g, 0, none⟩ = some (.int .u8 b)) :
    (convert 65 9 (.slice (some ⟨g, 0, none⟩) 1 c)).run Try.prog w = .ok (.string ⟨#[UInt8.ofNat b.toNat]⟩) w := by
  have := run_convert_bytes_back (P := Try.prog) w 65 9 5 ⟨g, 0, none⟩ c [UInt8.ofNat b.toNat] Try.underlying65 Try.underlying5 Try.underlying9 (fun j hj => by
    have : j = 0 := by simpa using hj
    subst this
    rw [add_zero', hc]
    simp
    omega)
  simpa using this
theorem wpList_conv_one (w : World) {ops : Array Oper} {rest : List Oper} {o : Oper} {a : Act} {Q : Exit → Act → World → Prop} (hgd : o.guard = none) (x : Operand)
    (ho : o.op = .convert 65 9 x) (g c : Nat) (hx : a.eval x = .slice (some ⟨g, 0, none⟩) 1 c) (b : Int) (h0 : 0 ≤ b) (h1 : b < 256) (hc : w.cell? ⟨g, 0, none⟩ = some (.int .u8 b))
    (h : wpList Try.prog ops Q rest (a.put o.dst (.string ⟨#[UInt8.ofNat b.toNat]⟩)) w) : wpList Try.prog ops Q (o :: rest) a w :=
  wpList_plain hgd fun _ hK => by
    unfold Oper.wp execOp
    simp only [ho, hx, Sem.run_bind, Sem.run_pure, Result.andThen_ok, conv_one w g c b h0 h1 hc]
    exact hK _ _ h
theorem rep_of (n : Int) : (⟨(Lib.repeatL (ByteArray.mk #[UInt8.ofNat n.toNat]).data.toList 32).toArray⟩ : ByteArray) = rep n := by
  simp [Lib.repeatL, rep, List.replicate]
set_option maxHeartbeats 1000000 in
set_option maxRecDepth 100000 in
theorem item_any (i p o : Int) (w : World) : Calls Try.prog 8 #[.int .i64 i, .int .i64 p, .int .i64 o] w fun e w' => e = .returned (itemOf i p o).val ∧ Below w.heap.size w w' := by
  have HA := fun x n W h1 h2 => Lib.hid (among_any x n W h1 h2)
  obtain ⟨ri0, ri1⟩ := am_range i 20 (by omega)
  obtain ⟨rp0, rp1⟩ := am_range p 5 (by omega)
  obtain ⟨a, ha⟩ : ∃ a, am i 20 = a := ⟨_, rfl⟩
  obtain ⟨b, hbb⟩ : ∃ b, am p 5 = b := ⟨_, rfl⟩
  rw [ha] at ri0 ri1
  rw [hbb] at rp0 rp1
  have HR := fun (s : ByteArray) W (hs : s.size ≤ 1) => Lib.hid (Try.strings_Repeat s 32 W (by omega) (by omega))
  go_enter Try.func8, Try.ntmps8
  go_wp2_with fail
  refine Calls.mono (HA p 5 _ (by omega) (by omega)).out ?_
  rw [hbb]
  rintro e w1 ⟨rfl, rfl⟩
  go_wp2_with fail
  rw [conv_one _ _ _ (97 + b) (by omega) (by omega) (by go_simp)]
  simp only [Result.andThen]
  rw [Oper.upon_value]
  go_wp2_with fail
  refine Calls.mono (HA i 20 _ (by omega) (by omega)).out ?_
  rw [ha]
  rintro e w1 ⟨rfl, rfl⟩
  go_wp2_with fail
  rw [conv_one _ _ _ (a * 13) (by omega) (by omega) (by go_simp)]
  simp only [Result.andThen]
  rw [Oper.upon_value]
  go_wp2_with fail
  refine Calls.mono (HR _ _ (by show _ ≤ 1; simp [ByteArray.size])).out ?_
  rw [rep_of]
  rintro e w1 ⟨rfl, hb1⟩
  have HB1 := Lib.hid hb1
  clear hb1
  go_wp2_with fail
  refine Calls.mono (HR _ _ (by show _ ≤ 1; simp [ByteArray.size])).out ?_
  rw [rep_of]
  rintro e w2 ⟨rfl, hb2⟩
  have hb : Below w.heap.size w w2 := ((((Below.refl _ _).alloc (Nat.le_refl _) _).alloc (by simp) _).alloc (by simp; omega) _).trans ((HB1.out.mono (by simp; omega)).trans (hb2.mono (by have := HB1.out.size; simp at this; omega)))
  have hblk : w2.heap[w.heap.size]? = some (.cells #[.string { data := #[] }, .string { data := #[] }, .int .i64 0, .int .i64 0, .int .i64 0, .int .i64 0] 32 (0, 0)) := by
    rw [hb2.block _ (by have := HB1.out.size; simp at this; omega), HB1.out.block _ (by simp; omega), Below.heap_alloc _ _ _ (by simp; omega), Below.heap_alloc _ _ _ (by simp)]
    exact heap_alloc_new w _
  obtain ⟨⟨y0, y1, y2, y3, y4, y5, a0, a1, a2, a3, a4, a5⟩, hfr⟩ := Room.of hblk (o := 0) (by simp)
  simp only [Nat.zero_add] at a1 a2 a3 a4 a5
  have f0 := hfr 0
  have f1 := hfr 1
  have f2 := hfr 2
  have f3 := hfr 3
  have f4 := hfr 4
  have f5 := hfr 5
  have HB := Lib.hid hb
  clear hfr hblk hb hb2
  go_wp2_with fail
  refine Calls.mono (HA o 100 _ (by omega) (by omega)).out ?_
  rintro e w3 ⟨rfl, rfl⟩
  go_wp2
  refine bodyPost_ret (v := (itemOf i p o).val) ?_ rfl ⟨rfl, ?_⟩
  · simp only [results, show Try.f8.results = #[.cell 6 32] from rfl]
    go_simp
    rw [← ha, ← hbb]
    exact ⟨rfl, rfl, rfl, rfl, rfl, rfl⟩
  · exact (((((HB.out.setCell (p := ⟨w.heap.size, 0, none⟩) (Nat.le_refl _) _).setCell (p := ⟨w.heap.size, 1, none⟩) (Nat.le_refl _) _).setCell (p := ⟨w.heap.size, 2, none⟩) (Nat.le_refl _) _).setCell (p := ⟨w.heap.size, 3, none⟩) (Nat.le_refl _) _).setCell (p := ⟨w.heap.size, 4, none⟩) (Nat.le_refl _) _).setCell (p := ⟨w.heap.size, 5, none⟩) (Nat.le_refl _) _
end Go.Proofs.Ytgigihlmpdpggaa
