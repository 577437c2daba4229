import Derived.Test.YtgigihlmpdpggaaLkE
namespace Go.Proofs.Ytgigihlmpdpggaa
open Go.RowKit
set_option maxHeartbeats 1000000 in
set_option maxRecDepth 100000 in
theorem insert_grow (g cap i : Nat) (xs : List It) (y : It) (h c : Nat) (w : World) (hn : xs.length ≤ 65536) (hv : Row w (.slice (some ⟨g, 0, none⟩) xs.length cap) xs) (hi : i < xs.length) (hroom : cap < xs.length + 1) (hh : h < w.heap.size) (hy : w.heap[h]? = some (.cells y.cells.toArray 32 (0, 0))) :
    Calls Try.prog 26 #[.slice (some ⟨g, 0, none⟩) xs.length cap, .int .i64 i, .slice (some ⟨h, 0, none⟩) 1 c] w (Inserted w (.slice (some ⟨g, 0, none⟩) xs.length cap) (xs.take i ++ y :: xs.drop i)) := by
  obtain ⟨i0, hi0, hz0, hz1, hz2⟩ := info_parts item_info
  obtain ⟨hlen, ⟨hbad, _⟩ | ⟨g', cap', cur, hgg, _, hheap, hncap, _, hcur, htake⟩⟩ := hv
  · cases hbad
  cases hgg
  have hgs : g < w.heap.size := (Array.getElem?_eq_some_iff.1 hheap).1
  have hcells : ∀ j u, (flat xs)[j]? = some u → w.cell? ((⟨g, 0, none⟩ : Addr).add j) = some u := by
    intro j u hu
    rw [add_zero', cell_of_row w g j cur _ (0, 0) hheap]
    rw [← htake, List.getElem?_take] at hu
    split at hu
    · simpa using hu
    · cases hu
  have happ : ∃ C cur0, (∀ ty, (Builtin.append_ #[35, 3] ty #[.slice (some ⟨g, 0, none⟩) i cap, .int .i64 ((xs.length : Int) + 1 - (i : Int))]).run Try.prog w = .ok (.slice (some ⟨w.heap.size, 0, none⟩) (xs.length + 1) C) (w.drew.alloc (.cells cur0 32))) ∧
      xs.length + 1 ≤ C ∧ C ≤ maxLen ∧ cur0.size = C * 6 ∧ cur0.toList.take (i * 6) = (flat xs).take (i * 6) := by
    obtain ⟨k, hk⟩ : ∃ k, k = xs.length + 1 - i := ⟨_, rfl⟩
    have hik : i + k = xs.length + 1 := by omega
    have hki : ((xs.length : Int) + 1 - (i : Int)) = (k : Int) := by omega
    have hold : (Builtin.firstCells i0.size i (.slice (some ⟨g, 0, none⟩) i cap)).run Try.prog w.drew = .ok ((flat xs).take (i * 6)).toArray w.drew :=
      run_firstCells_some (P := Try.prog) w.drew i0.size i ⟨g, 0, none⟩ i cap ((flat xs).take (i * 6)) (by rw [hz1]; simp [flat_length]; omega) (fun j u hu => by
        rw [List.getElem?_take] at hu
        split at hu
        · exact hcells j u hu
        · cases hu)
    have hge := grownCap_ge w (i + k) cap 32
    have hgm := grownCap_le_maxLen w (i + k) cap 32 (by unfold maxLen; omega)
    rw [hik] at hge hgm
    have hfit : Builtin.nextslicecap (i + k) cap * i0.bytes ≤ 281474976710656 := growslice_fits (by omega) (by rw [hz2]; omega)
    refine ⟨grownCap w (xs.length + 1) cap 32, ((flat xs).take (i * 6)).toArray ++ Builtin.zeroCells zItem.cells k ++ Builtin.zeroCells zItem.cells (grownCap w (xs.length + 1) cap 32 - (xs.length + 1)), fun ty => ?_, hge, hgm, ?_, ?_⟩
    · rw [hki]
      have := Lib.run_append_grow_zeros (P := Try.prog) w 35 3 ty 32 i0 _ .i64 .i64 Try.underlying35 Try.underlying3 hi0 hz0 (some ⟨g, 0, none⟩) i cap _ hold k (by omega) (by omega) (by omega) (by omega) (by rw [hz2]; omega) hfit
      rw [hik] at this
      exact this
    · have hfl : ((flat xs).take (i * 6)).length = i * 6 := by simp [flat_length]; omega
      simp only [Array.size_append, List.size_toArray, size_zeroCells, zItem_size, hfl]
      omega
    · have hfl : ((flat xs).take (i * 6)).length = i * 6 := by simp [flat_length]; omega
      rw [Array.toList_append, Array.toList_append, List.append_assoc, List.toList_toArray]
      exact List.take_left' hfl
  obtain ⟨C, cur0, hrun, hC, hCm, hsz0, htk0⟩ := happ
  obtain ⟨b, hb⟩ : ∃ b, w.heap.size = b := ⟨_, rfl⟩
  obtain ⟨W0, hW0⟩ : ∃ W0, W0 = w.drew.alloc (.cells cur0 32) := ⟨_, rfl⟩
  rw [hb, ← hW0] at hrun
  have hg0 : W0.heap[b]? = some (.cells cur0 32 (0, 0)) := by rw [hW0, ← hb]; exact heap_alloc_new w.drew _
  have hold : ∀ k, k < b → W0.heap[k]? = w.heap[k]? := fun k hk => by rw [hW0]; exact Below.heap_alloc w.drew _ k (by rw [← hb] at hk; exact hk)
  have hbel : Below b w W0 := by rw [hW0, ← hb]; exact (Below.refl _ _).drew.alloc (Nat.le_refl _) _
  have hcl : cur0.toList.length = C * 6 := by simpa using hsz0
  obtain ⟨c1, hc1⟩ : ∃ c1, c1 = splice cur0.toList (i * 6) y.cells := ⟨_, rfl⟩
  have hc1l : c1.length = C * 6 := by rw [hc1, length_splice _ _ _ (by rw [cells_length, hcl]; omega), hcl]
  have hcp1 : ∀ ty dc, (Builtin.copy_ #[35, 35] ty #[.slice (some ⟨b, i * 6, none⟩) (xs.length + 1 - i) dc, .slice (some ⟨h, 0, none⟩) 1 c]).run Try.prog W0 =
      .ok (goInt ((1 : Nat) : Int)) (W0.setRow b c1.toArray) := by
    intro ty dc
    have hh1 : W0.heap[h]? = some (.cells y.cells.toArray 32 (0, 0)) := by rw [hold h (by omega)]; exact hy
    have := Kit.run_copy_k (P := Try.prog) W0 35 35 ty 32 i0 b (i * 6) (xs.length + 1 - i) dc ⟨h, 0, none⟩ 1 c 1 (by omega) cur0 32 y.cells Try.underlying35 hi0 hg0
      (by rw [hz1]; rfl) (by
        intro j u hu
        rw [add_zero', cell_of_row W0 h j y.cells.toArray _ (0, 0) hh1]
        simpa using hu) (by rw [cells_length, hsz0]; omega) (cells_one y)
    rw [hc1]
    exact this
  obtain ⟨W1, hW1⟩ : ∃ W1, W1 = W0.setRow b c1.toArray := ⟨_, rfl⟩
  rw [← hW1] at hcp1
  have hg1 : W1.heap[b]? = some (.cells c1.toArray 32 (0, 0)) := by rw [hW1]; exact setRow_heap _ _ _ _ _ _ hg0
  obtain ⟨X2, hX2⟩ : ∃ X2, X2 = (flat xs).drop (i * 6) := ⟨_, rfl⟩
  have hX2l : X2.length = (xs.length - i) * 6 := by rw [hX2]; simp [flat_length]; omega
  obtain ⟨c2, hc2⟩ : ∃ c2, c2 = splice c1 ((i + 1) * 6) X2 := ⟨_, rfl⟩
  have hcp2 : ∀ nq ty dc sc, (Builtin.copy_ #[35, 35] ty #[.slice (some ⟨b, (i + 1) * 6, none⟩) (xs.length - i) dc, .slice (some ⟨g, i * 6, none⟩) (xs.length - i) sc]).run Try.prog (W1.drewN nq) =
      .ok (goInt ((xs.length - i : Nat) : Int)) ((W1.drewN nq).setRow b c2.toArray) := by
    intro nq ty dc sc
    have hgg1 : W1.heap[g]? = some (.cells cur 32 (0, 0)) := by rw [hW1, setRow_other _ _ _ _ (by omega), hold g (by omega)]; exact hheap
    have := Kit.run_copy_k (P := Try.prog) (W1.drewN nq) 35 35 ty 32 i0 b ((i + 1) * 6) (xs.length - i) dc ⟨g, i * 6, none⟩ (xs.length - i) sc (xs.length - i) (by omega) c1.toArray 32 X2 Try.underlying35 hi0 hg1
      (by rw [hX2l, hz1]) (by
        intro j u hu
        rw [hX2, List.getElem?_drop] at hu
        have hadd : (⟨g, i * 6, none⟩ : Addr).add j = ⟨g, i * 6 + j, none⟩ := by unfold Addr.add; split <;> simp_all
        rw [hadd, cell_of_row (W1.drewN nq) g _ cur _ (0, 0) hgg1]
        rw [← htake, List.getElem?_take] at hu
        split at hu
        · simpa using hu
        · cases hu) (by rw [hX2l, List.size_toArray, hc1l]; omega) (by intro u hu; rw [hX2] at hu; exact flat_one xs u (List.mem_of_mem_drop hu))
    rw [hc2]
    exact this
  have hfin : ∀ nq, Inserted w (.slice (some ⟨g, 0, none⟩) xs.length cap) (xs.take i ++ y :: xs.drop i) (.returned (.slice (some ⟨b, 0, none⟩) (xs.length + 1) C)) ((W1.drewN nq).setRow b c2.toArray) := by
    intro nq
    have hsp := splice_splice_ins' cur0.toList (flat xs) y.cells (xs.length * 6) (i * 6) 6 htk0 (by rw [flat_length]) (by omega) rfl (by rw [hcl]; omega)
    refine ⟨_, rfl, ⟨?_, .inr ⟨b, C, c2.toArray, ?_, Nat.zero_le _, setRow_heap _ _ _ _ _ _ hg1, ?_, hCm, ?_, ?_⟩⟩, ?_, .inr ⟨b, rfl, by omega⟩⟩
    · simp [flat_length]
    · simp; omega
    · simp; omega
    · rw [List.size_toArray, hc2, length_splice _ _ _ (by rw [hX2l, hc1l]; omega), hc1l]
    · have h2 := hsp.1
      rw [← hX2, show i * 6 + 6 = (i + 1) * 6 by omega, ← hc1, ← hc2] at h2
      rw [List.toList_toArray, flat_append, flat_cons, flat_take, flat_drop, ← hX2, ← h2]
      congr 1
      simp; omega
    · refine ⟨?_, ?_, ?_, ?_, fun k hk _ => ?_⟩
      · rw [hW1]; exact hbel.os
      · rw [hW1]; exact hbel.tape
      · rw [hW1]; exact hbel.output
      · rw [hW1]; simpa using hbel.size
      · rw [setRow_other _ _ _ _ (by omega), hW1]
        show (W0.setRow b c1.toArray).heap[k]? = _
        rw [setRow_other _ _ _ _ (by omega)]
        exact hold k (by omega)
  clear hlen htake hheap hcur hcells hX2l hX2 hc1 hc1l hc2 hy hW0 hg0 hold hbel hcl hW1 hg1 hz0 hz1 hz2 hi0 hb htk0 hsz0 hCm
  have HF := fun nq => Lib.hid (hfin nq)
  clear hfin
  go_enter Try.func26, Try.ntmps26
  go_wp2_with (first | (at_builtin; refine Lib.wpList_append_run w rfl (.tmp 34) (.tmp 39) _ _ rfl _ _ rfl rfl _ _ (hrun _) ?_) | (refine Kit.wpList_copy_run W0 rfl (.tmp 43) (.tmp 44) _ _ rfl _ _ rfl rfl _ _ (hcp1 _ _) ?_))
  simp only [Act.put, goInt, List.setIfInBounds_toArray, List.set_cons_succ, List.set_cons_zero]
  refine Kit.wp_region_tail_lit 8 (by kernel_rfl) (by kernel_rfl) ?_
  simp only [List.take_succ_cons, List.take_zero, List.drop_succ_cons, List.drop_zero]
  repeat (go_big_quiet_step (fail))
  refine wpQuiet_nil ?_
  rintro _ ⟨nq, rfl⟩
  refine Kit.wpList_copy_run (W1.drewN nq) rfl (.tmp 50) (.tmp 53) _ _ rfl _ _ rfl rfl _ _ (hcp2 nq _ _ _) ?_
  clear hrun hcp1 hcp2
  go_wp2
  go_ret
  exact (HF nq).out
end Go.Proofs.Ytgigihlmpdpggaa
