import Derived.Test.YtgigihlmpdpggaaLkK
namespace Go.Proofs.Ytgigihlmpdpggaa
open Go.RowKit
def It.pval (x : It) : Value := .agg #[.string x.pack, .int .i64 x.kind, .int .i64 x.off, .int .i64 x.long, .int .i64 x.size]
def noPlace : Value := .agg #[.string ByteArray.empty, .int .i64 0, .int .i64 0, .int .i64 0, .int .i64 0]
theorem pget (xs : List It) (i j : Nat) (x : It) (h : xs[i]? = some x) (hj : j < 5) : (pflat xs)[i * 5 + j]? = x.pcells[j]? := by
  induction xs generalizing i with
  | nil => simp at h
  | cons y l ih =>
    cases i with
    | zero =>
      simp at h
      subst h
      simp only [pflat, List.flatMap_cons, Nat.zero_mul, Nat.zero_add]
      rw [List.getElem?_append_left (by simp [It.pcells]; omega)]
    | succ i =>
      simp at h
      have := ih i h
      simp only [pflat, List.flatMap_cons]
      rw [List.getElem?_append_right (by simp [It.pcells]; omega)]
      rw [show (i + 1) * 5 + j - (It.pcells y).length = i * 5 + j by simp [It.pcells]; omega]
      exact this
/-- What 'Get' comes to: the first place of an id, or none. -/
def Got (w : World) (ys : List It) (e : Ending) (w' : World) : Prop :=
  e = .returned (.tuple #[(ys.head?.map It.pval).getD noPlace, .bool ys.head?.isSome]) ∧ Below w.heap.size w w'
set_option maxHeartbeats 1000000 in
set_option maxRecDepth 100000 in
theorem get_any (b : Nat) (V : List Value) (L : List (List It)) (s : ByteArray) (xs : List It) (w : World) (ht : Tab w b V L) (hx : L[slot s]? = some xs) (hr : Rising xs) (hn : xs.length ≤ 65536) :
    Calls Try.prog 12 #[.pointer (some ⟨b, 0, none⟩), .string s] w (Got w (hits s xs)) := by
  have HP := fun W hW => Lib.hid (places_any b V L s xs W hW hx hr hn)
  obtain ⟨ys, hys⟩ : ∃ ys, hits s xs = ys := ⟨_, rfl⟩
  rw [hys] at HP ⊢
  have HT := Lib.hid ht
  clear ht hx hr hn hys
  go_enter Try.func12, Try.ntmps12
  go_wp2_with fail
  go_goals
  refine Calls.mono (HP _ ?_).out ?_
  · exact HT.out.kept fun g hg => Below.heap_alloc w _ g (HT.out.own_lt hg)
  rintro e w1 ⟨v, rfl, hown, hb⟩
  clear HP
  have hblk : w1.heap[w.heap.size]? = some (.cells #[.string { data := #[] }, .int .i64 0, .int .i64 0, .int .i64 0, .int .i64 0] 30 (0, 0)) := (hb.block _ (by simp)).trans (heap_alloc_new w _)
  have hcell : ∀ i u, #[Value.string { data := #[] }, .int .i64 0, .int .i64 0, .int .i64 0, .int .i64 0][i]? = some u → w1.cell? ⟨w.heap.size, i, none⟩ = some u := fun i u hu => by
    rw [cell_of_row w1 _ i _ _ (0, 0) hblk]
    exact hu
  have c0 := hcell 0 (.string { data := #[] }) rfl
  have c1 := hcell 1 (.int .i64 0) rfl
  have c2 := hcell 2 (.int .i64 0) rfl
  have c3 := hcell 3 (.int .i64 0) rfl
  have c4 := hcell 4 (.int .i64 0) rfl
  have hfr : ∀ i, w1.frozen? ⟨w.heap.size, i, none⟩ = false := fun i => by
    simp [World.frozen?, hblk]
  have f0 := hfr 0
  have f1 := hfr 1
  have f2 := hfr 2
  have f3 := hfr 3
  have f4 := hfr 4
  have HBB : ∀ a0 a1 a2 a3 a4, Below w.heap.size w (((((w1.setCell ⟨w.heap.size, 0, none⟩ a0).setCell ⟨w.heap.size, 1, none⟩ a1).setCell ⟨w.heap.size, 2, none⟩ a2).setCell ⟨w.heap.size, 3, none⟩ a3).setCell ⟨w.heap.size, 4, none⟩ a4) := fun a0 a1 a2 a3 a4 =>
    ((((((Below.refl _ w).alloc (Nat.le_refl _) _).trans (hb.mono (by simp))).setCell (p := ⟨w.heap.size, 0, none⟩) (Nat.le_refl _) a0).setCell (p := ⟨w.heap.size, 1, none⟩) (Nat.le_refl _) a1).setCell (p := ⟨w.heap.size, 2, none⟩) (Nat.le_refl _) a2).setCell (p := ⟨w.heap.size, 3, none⟩) (Nat.le_refl _) a3 |>.setCell (p := ⟨w.heap.size, 4, none⟩) (Nat.le_refl _) a4
  have HBK := Lib.hid hblk
  clear hcell hfr hb hblk
  cases ys with
  | nil =>
    obtain ⟨o, c, rfl⟩ : ∃ (o : Option Addr) (c : Nat), v = .slice o 0 c := by
      rcases hown.2 with ⟨rfl, _⟩ | ⟨g, cap, cur, rfl, _⟩
      · exact ⟨_, _, rfl⟩
      · exact ⟨_, _, rfl⟩
    clear hown
    go_wp2
    refine bodyPost_ret (v := .tuple #[noPlace, .bool false]) ?_ rfl ⟨rfl, ?_⟩
    · rw [results_cell_tmp rfl]
      go_simp
      rfl
    · exact HBB _ _ _ _ _
  | cons y l =>
    obtain ⟨g, c, rfl, hg, hcc⟩ : ∃ (g : Nat) (c : Nat), v = .slice (some ⟨g, 0, none⟩) (l.length + 1) c ∧ w.heap.size < g ∧ ∀ i u, y.pcells[i]? = some u → w1.cell? ⟨g, i, none⟩ = some u := by
      rcases hown.2 with ⟨rfl, h⟩ | ⟨g, cap, cur, rfl, hg, hb, _, _, hcur, ht⟩
      · simp at h
      · refine ⟨g, cap, rfl, by simp at hg; omega, fun i u hu => ?_⟩
        rw [cell_of_row w1 _ i _ _ (0, 0) hb]
        have hi : i < 5 := by simpa [It.pcells] using (List.getElem?_eq_some_iff.1 hu).1
        have := pget (y :: l) 0 i y rfl hi
        rw [← ht, List.getElem?_take] at this
        simp at this
        rw [if_pos (by omega)] at this
        rw [this]
        exact hu
    have d0 := hcc 0 (.string y.pack) rfl
    have d1 := hcc 1 (.int .i64 y.kind) rfl
    have d2 := hcc 2 (.int .i64 y.off) rfl
    have d3 := hcc 3 (.int .i64 y.long) rfl
    have d4 := hcc 4 (.int .i64 y.size) rfl
    have hne : g ≠ w.heap.size := by omega
    clear hown hcc
    go_wp2
    refine bodyPost_ret (v := .tuple #[y.pval, .bool true]) ?_ rfl ⟨rfl, ?_⟩
    · rw [results_cell_tmp rfl]
      go_simp
      rfl
    · exact HBB _ _ _ _ _
end Go.Proofs.Ytgigihlmpdpggaa
