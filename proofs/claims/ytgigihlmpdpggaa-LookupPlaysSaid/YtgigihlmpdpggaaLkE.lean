import Derived.Test.YtgigihlmpdpggaaLkD
import Derived.Lib.Overlaps
namespace Go.Proofs.Ytgigihlmpdpggaa
open Go.RowKit
def zItem : Value := .agg #[.string ByteArray.empty, .string ByteArray.empty, .int .i64 0, .int .i64 0, .int .i64 0, .int .i64 0]
theorem zItem_size : zItem.cells.size = 6 := rfl
theorem item_info : (Try.prog.info? 32).map (fun i => (i.zero, i.size, i.bytes)) = some (some zItem, 6, 64) := by kernel_rfl
/-- What 'slices.Insert' of one item comes to. -/
def Inserted (w : World) (v : Value) (ys : List It) (e : Ending) (w' : World) : Prop :=
  ∃ v', e = .returned v' ∧ Row w' v' ys ∧ w.grownBy w' v.ownBlock ∧ (v'.ownBlock = v.ownBlock ∨ ∃ k, v'.ownBlock = some k ∧ w.heap.size ≤ k)
theorem cells_one (x : It) : ∀ u ∈ x.cells, u.oneCell' = true := by
  intro u hu
  simp [It.cells] at hu
  rcases hu with rfl | rfl | rfl | rfl | rfl | rfl <;> rfl
theorem flat_one (xs : List It) : ∀ u ∈ flat xs, u.oneCell' = true := by
  intro u hu
  obtain ⟨x, _, hx⟩ := List.mem_flatMap.1 hu
  exact cells_one x u hx
theorem CellsAt.cells {w : World} {h o : Nat} {x : It} (hc : CellsAt w h o x) : ∀ j u, x.cells[j]? = some u → w.cell? ((⟨h, o, none⟩ : Addr).add j) = some u := by
  intro j u hu
  have hadd : (⟨h, o, none⟩ : Addr).add j = ⟨h, o + j, none⟩ := by unfold Addr.add; split <;> simp_all
  rw [hadd]
  match j, hu with
  | 0, hu => simp [It.cells] at hu; subst hu; exact hc.c0
  | 1, hu => simp [It.cells] at hu; subst hu; exact hc.c1
  | 2, hu => simp [It.cells] at hu; subst hu; exact hc.c2
  | 3, hu => simp [It.cells] at hu; subst hu; exact hc.c3
  | 4, hu => simp [It.cells] at hu; subst hu; exact hc.c4
  | 5, hu => simp [It.cells] at hu; subst hu; exact hc.c5
  | j + 6, hu => simp [It.cells] at hu
theorem flat_append (xs ys : List It) : flat (xs ++ ys) = flat xs ++ flat ys := by simp [flat]
theorem flat_single (x : It) : flat [x] = x.cells := by simp [flat]
set_option maxHeartbeats 1000000 in
set_option maxRecDepth 100000 in
theorem insert_end (v : Value) (xs : List It) (y : It) (h c : Nat) (w : World) (hn : xs.length ≤ 65536) (hv : Row w v xs) (hy : CellsAt w h 0 y) :
    Calls Try.prog 26 #[v, .int .i64 xs.length, .slice (some ⟨h, 0, none⟩) 1 c] w (Inserted w v (xs ++ [y])) := by
  obtain ⟨i0, hi0, hz0, hz1, hz2⟩ := info_parts item_info
  obtain ⟨v', w', hrun, hrow, hgrow, _, hat⟩ := run_append_own_at (P := Try.prog) w 0 35 35 32 i0 _ 6 64 Try.underlying35 hi0 hz0 hz1 hz2 rfl (by omega) v xs.length (flat xs) hv ⟨h, 0, none⟩ 1 c y.cells (by simp [It.cells]) hy.cells (cells_one y) (by unfold maxLen; omega) (by omega) (Nat.zero_le _)
  have hfin : Inserted w v (xs ++ [y]) (.returned v') w' := by
    refine ⟨v', rfl, ?_, hgrow, hat.imp id fun h => ⟨_, h, Nat.le_refl _⟩⟩
    show w'.ownsRow 0 32 6 v' (xs ++ [y]).length (flat (xs ++ [y]))
    rw [flat_append, flat_single]
    simpa using hrow
  obtain ⟨cap, ⟨rfl, rfl⟩ | ⟨g, rfl, _, _, hcap, _⟩⟩ := hv.form'
  all_goals
    clear hv hrow hgrow hat
    go_enter Try.func26, Try.ntmps26
    go_wp2_with (at_builtin; refine Lib.wpList_append_run _ rfl (.tmp 23) (.tmp 24) _ _ rfl _ _ rfl rfl _ _ hrun ?_)
    all_goals
      go_ret
      exact hfin
theorem flat_cons (x : It) (l : List It) : flat (x :: l) = x.cells ++ flat l := rfl
theorem cells_length (x : It) : x.cells.length = 6 := rfl
theorem flat_take (xs : List It) (i : Nat) : flat (xs.take i) = (flat xs).take (i * 6) := by
  induction xs generalizing i with
  | nil => simp [flat]
  | cons x l ih =>
    cases i with
    | zero => simp [flat]
    | succ i =>
      rw [List.take_succ_cons, flat_cons, flat_cons, ih i, show (i + 1) * 6 = x.cells.length + i * 6 by rw [cells_length]; omega, List.take_length_add_append]
theorem flat_drop (xs : List It) (i : Nat) : flat (xs.drop i) = (flat xs).drop (i * 6) := by
  induction xs generalizing i with
  | nil => simp [flat]
  | cons x l ih =>
    cases i with
    | zero => simp [flat]
    | succ i =>
      rw [List.drop_succ_cons, flat_cons, ih i, show (i + 1) * 6 = x.cells.length + i * 6 by rw [cells_length]; omega, List.drop_length_add_append]
theorem splice_splice_ins {α : Type} (cur l y : List α) (n i k : Nat) (hc : cur.take n = l) (hl : n ≤ cur.length) (hi : i ≤ n) (hy : y.length = k) (hr : n + k ≤ cur.length) :
    (splice (splice cur (i + k) (l.drop i)) i y).take (n + k) = l.take i ++ (y ++ l.drop i) ∧ (splice (splice cur (i + k) (l.drop i)) i y).length = cur.length := by
  have hll : l.length = n := by rw [← hc]; simp; omega
  have hd : (l.drop i).length = n - i := by simp [hll]
  have h1 : (splice cur (i + k) (l.drop i)).length = cur.length := length_splice _ _ _ (by rw [hd]; omega)
  refine ⟨?_, by rw [length_splice _ _ _ (by rw [h1]; omega), h1]⟩
  have e1 : (splice cur (i + k) (l.drop i)).take i = l.take i := by
    rw [splice, List.take_append_of_le_length (by simp; omega), List.take_take, ← hc, List.take_take]
    congr 1
    omega
  have e2 : (splice cur (i + k) (l.drop i)).drop (i + y.length) = l.drop i ++ cur.drop (i + k + (l.drop i).length) := by
    rw [splice, hy]
    exact List.drop_left' (by simp; omega)
  rw [show splice (splice cur (i + k) (l.drop i)) i y = l.take i ++ (y ++ (l.drop i ++ cur.drop (i + k + (l.drop i).length))) by rw [← e2, ← e1]; rfl]
  rw [← List.append_assoc y, ← List.append_assoc (l.take i)]
  exact List.take_left' (by simp; omega)
theorem splice_splice_ins' {α : Type} (cur l y : List α) (n i k : Nat) (hc : cur.take i = l.take i) (hn : l.length = n) (hi : i ≤ n) (hy : y.length = k) (hr : n + k ≤ cur.length) :
    (splice (splice cur i y) (i + k) (l.drop i)).take (n + k) = l.take i ++ (y ++ l.drop i) ∧ (splice (splice cur i y) (i + k) (l.drop i)).length = cur.length := by
  have hd : (l.drop i).length = n - i := by simp [hn]
  have h1 : (splice cur i y).length = cur.length := length_splice _ _ _ (by omega)
  refine ⟨?_, by rw [length_splice _ _ _ (by rw [h1, hd]; omega), h1]⟩
  have e1 : (splice cur i y).take (i + k) = l.take i ++ y := by
    rw [splice, hc, ← List.append_assoc]
    exact List.take_left' (by simp; omega)
  rw [splice, e1, List.append_assoc, ← List.append_assoc y, ← List.append_assoc (l.take i)]
  exact List.take_left' (by simp; omega)
theorem size_item (w : World) : (Go.sizeOf 32).run Try.prog w = .ok 6 w := by
  obtain ⟨i0, hi0, hz0, hz1, hz2⟩ := info_parts item_info
  simp [sizeOf, typeInfo, hi0, hz1]
theorem overlaps_no (w : World) (g h c k n' c' : Nat) (cs cur : Array Value) (hgh : g ≠ h) (hb : w.heap[h]? = some (.cells cs 32 (0, 0))) (hg : w.heap[g]? = some (.cells cur 32 (0, 0))) (hsz : cur.size ≠ 0) :
    (callFunc 49 #[.slice (some ⟨h, 0, none⟩) 1 c, .slice (some ⟨g, k, none⟩) n' c']).run Try.prog w = .ok (.value (.bool false)) w := by
  rw [run_callFunc_extern Try.func49 (by kernel_rfl) (by kernel_rfl) (by kernel_rfl) (e := Extern.SlicesOverlaps.overlaps #[35, 35] #[4]) (by kernel_rfl),
    Lib.run_overlaps_apart w 35 4 32 Try.underlying35 6 size_item ⟨h, 0, none⟩ ⟨g, k, none⟩ 1 c n' c' (Ne.symm hgh) 32 32 cs.size cur.size (by simp [World.shape?, hb]) (by simp [World.shape?, hg]) hsz (by simp [World.frozen?, hb]) (by simp [World.frozen?, hb])]
  rfl
set_option maxHeartbeats 1000000 in
set_option maxRecDepth 100000 in
theorem insert_room (g cap i : Nat) (xs : List It) (y : It) (h c : Nat) (w : World) (hn : xs.length ≤ 65536) (hcap0 : cap ≤ maxLen) (hv : Row w (.slice (some ⟨g, 0, none⟩) xs.length cap) xs) (hi : i < xs.length) (hroom : xs.length + 1 ≤ cap) (hgh : g ≠ h) (hy : w.heap[h]? = some (.cells y.cells.toArray 32 (0, 0))) :
    Calls Try.prog 26 #[.slice (some ⟨g, 0, none⟩) xs.length cap, .int .i64 i, .slice (some ⟨h, 0, none⟩) 1 c] w (Inserted w (.slice (some ⟨g, 0, none⟩) xs.length cap) (xs.take i ++ y :: xs.drop i)) := by
  obtain ⟨i0, hi0, hz0, hz1, hz2⟩ := info_parts item_info
  unfold maxLen at hcap0
  obtain ⟨hlen, ⟨hbad, _⟩ | ⟨g', cap', cur, hgg, _, hheap, _, _, hcur, htake⟩⟩ := hv
  · cases hbad
  cases hgg
  have hov : ∀ n' c', (callFunc 49 #[.slice (some ⟨h, 0, none⟩) 1 c, .slice (some ⟨g, (i + 1) * 6, none⟩) n' c']).run Try.prog w = .ok (.value (.bool false)) w := fun n' c' =>
    overlaps_no w g h c _ n' c' _ _ hgh hy hheap (by omega)
  have hcl : cur.toList.length = cap * 6 := by simpa using hcur
  have hcells : ∀ j u, (flat xs)[j]? = some u → w.cell? ((⟨g, 0, none⟩ : Addr).add j) = some u := by
    intro j u hu
    rw [add_zero', cell_of_row w g j cur _ (0, 0) hheap]
    rw [← htake, List.getElem?_take] at hu
    split at hu
    · simpa using hu
    · cases hu
  obtain ⟨X2, hX2⟩ : ∃ X2, X2 = (flat xs).drop (i * 6) := ⟨_, rfl⟩
  have hX2l : X2.length = (xs.length - i) * 6 := by rw [hX2]; simp [flat_length]; omega
  obtain ⟨c1, hc1⟩ : ∃ c1, c1 = splice cur.toList ((i + 1) * 6) X2 := ⟨_, rfl⟩
  have hcp1 : ∀ nq ty dc sc, (Builtin.copy_ #[35, 35] ty #[.slice (some ⟨g, (i + 1) * 6, none⟩) (xs.length - i) dc, .slice (some ⟨g, i * 6, none⟩) (xs.length + 1 - i) sc]).run Try.prog (w.drewN nq) =
      .ok (goInt ((xs.length - i : Nat) : Int)) ((w.drewN nq).setRow g c1.toArray) := by
    intro nq ty dc sc
    have := Kit.run_copy_k (P := Try.prog) (w.drewN nq) 35 35 ty 32 i0 g ((i + 1) * 6) (xs.length - i) dc ⟨g, i * 6, none⟩ (xs.length + 1 - i) sc (xs.length - i) (by omega) cur 32 X2 Try.underlying35 hi0 hheap
      (by rw [hX2l, hz1]) (by
        intro j u hu
        rw [hX2, List.getElem?_drop] at hu
        have := hcells _ u hu
        rw [add_zero'] at this
        have hadd : (⟨g, i * 6, none⟩ : Addr).add j = ⟨g, i * 6 + j, none⟩ := by unfold Addr.add; split <;> simp_all
        rw [hadd]
        exact this) (by rw [hX2l, hcur, ← Nat.add_mul]; exact Nat.mul_le_mul_right _ (by omega)) (by intro u hu; rw [hX2] at hu; exact flat_one xs u (List.mem_of_mem_drop hu))
    rw [hc1]
    exact this
  have hc1l : c1.length = cap * 6 := by
    rw [hc1, length_splice _ _ _ (by rw [hX2l, hcl]; omega), hcl]
  obtain ⟨c2, hc2⟩ : ∃ c2, c2 = splice c1 (i * 6) y.cells := ⟨_, rfl⟩
  have hcp2 : ∀ nq W ty dc, W = (w.drewN nq).setRow g c1.toArray → (Builtin.copy_ #[35, 35] ty #[.slice (some ⟨g, i * 6, none⟩) (xs.length + 1 - i) dc, .slice (some ⟨h, 0, none⟩) 1 c]).run Try.prog W =
      .ok (goInt ((1 : Nat) : Int)) (W.setRow g c2.toArray) := by
    intro nq W ty dc hW
    have hg1 : W.heap[g]? = some (.cells c1.toArray 32 (0, 0)) := by rw [hW]; exact setRow_heap _ _ _ _ _ _ hheap
    have hh1 : W.heap[h]? = some (.cells y.cells.toArray 32 (0, 0)) := by rw [hW, setRow_other _ _ _ _ (Ne.symm hgh)]; exact hy
    have := Kit.run_copy_k (P := Try.prog) W 35 35 ty 32 i0 g (i * 6) (xs.length + 1 - i) dc ⟨h, 0, none⟩ 1 c 1 (by omega) c1.toArray 32 y.cells Try.underlying35 hi0 hg1
      (by rw [hz1]; rfl) (by
        intro j u hu
        rw [add_zero', cell_of_row W h j y.cells.toArray _ (0, 0) hh1]
        simpa using hu) (by rw [cells_length, List.size_toArray, hc1l]; omega) (cells_one y)
    rw [hc2]
    exact this
  have hfin : ∀ nq W, W = (w.drewN nq).setRow g c1.toArray → Inserted w (.slice (some ⟨g, 0, none⟩) xs.length cap) (xs.take i ++ y :: xs.drop i) (.returned (.slice (some ⟨g, 0, none⟩) (xs.length + 1) cap)) (W.setRow g c2.toArray) := by
    intro nq W hW
    have hg1 : W.heap[g]? = some (.cells c1.toArray 32 (0, 0)) := by rw [hW]; exact setRow_heap _ _ _ _ _ _ hheap
    have hsp := splice_splice_ins cur.toList (flat xs) y.cells (xs.length * 6) (i * 6) 6 htake (by rw [hcl]; omega) (by omega) rfl (by rw [hcl]; omega)
    refine ⟨_, rfl, ⟨?_, .inr ⟨g, cap, c2.toArray, ?_, Nat.zero_le _, setRow_heap _ _ _ _ _ _ hg1, ?_, by unfold maxLen; omega, ?_, ?_⟩⟩, ?_, .inl rfl⟩
    · simp [flat_length]
    · simp; omega
    · simp; omega
    · rw [List.size_toArray, hc2, length_splice _ _ _ (by rw [cells_length, hc1l]; omega), hc1l]
    · have h2 := hsp.1
      rw [← hX2, show i * 6 + 6 = (i + 1) * 6 by omega, ← hc1, ← hc2] at h2
      rw [List.toList_toArray, flat_append, flat_cons, flat_take, flat_drop, ← hX2, ← h2]
      congr 1
      simp; omega
    · rw [hW]
      exact ⟨rfl, rfl, rfl, by simp, fun k hk hne => by rw [setRow_other _ _ _ _ (by simpa [Value.ownBlock] using hne), setRow_other _ _ _ _ (by simpa [Value.ownBlock] using hne)]; rfl⟩
  clear hlen htake hheap hcur hcells hX2l hX2 hc1 hc1l hc2 hy
  go_enter Try.func26, Try.ntmps26
  go_wp2
  refine Kit.wp_region_tail_lit 8 (by kernel_rfl) (by kernel_rfl) ?_
  simp only [List.take_succ_cons, List.take_zero, List.drop_succ_cons, List.drop_zero]
  repeat (go_big_quiet_step (fail))
  refine wpQuiet_nil ?_
  rintro _ ⟨nq, rfl⟩
  refine Kit.wpList_copy_run (w.drewN nq) rfl (.tmp 73) (.tmp 76) _ _ rfl _ _ rfl rfl _ _ (hcp1 nq _ _ _) ?_
  generalize hW : (w.drewN nq).setRow g c1.toArray = W1
  have hcp2' := fun ty dc => hcp2 nq W1 ty dc hW.symm
  have HF := Lib.hid (hfin nq W1 hW.symm)
  clear hcp1 hcp2 hfin hW
  go_wp2_with (refine Kit.wpList_copy_run W1 rfl (.tmp 80) (.tmp 82) _ _ rfl _ _ rfl rfl _ _ (hcp2' _ _) ?_)
  go_ret
  exact HF.out
end Go.Proofs.Ytgigihlmpdpggaa
