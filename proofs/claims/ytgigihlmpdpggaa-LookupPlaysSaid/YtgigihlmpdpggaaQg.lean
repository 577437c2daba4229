import Derived.Test.YtgigihlmpdpggaaQf
namespace Go.Proofs.Ytgigihlmpdpggaa
open Go.RowKit
set_option maxHeartbeats 1000000 in
set_option maxRecDepth 100000 in
theorem rget_any (p : Nat) (v : Value) (l : List It) (s : ByteArray) (w : World) (ht : RTab w p v l) (hn : l.length ≤ 65536) :
    Calls Try.prog 37 #[.pointer (some ⟨p, 0, none⟩), .string s] w (Got w (l.filter (hasId s))) := by
  have HP := fun W hW => Lib.hid (rplaces_any p v l s W hW hn)
  obtain ⟨ys, hys⟩ : ∃ ys, l.filter (hasId s) = ys := ⟨_, rfl⟩
  rw [hys] at HP ⊢
  have HT := Lib.hid ht
  clear ht hn hys
  go_enter Try.func37, Try.ntmps37
  go_wp2_with fail
  refine Calls.mono (HP _ ?_).out ?_
  · exact HT.out.below ((Below.refl _ _).alloc (Nat.le_refl _) _)
  rintro e w1 ⟨v, rfl, hown, hb⟩
  clear HP
  have hblk : w1.heap[w.heap.size]? = some (.cells #[.string { data := #[] }, .int .i64 0, .int .i64 0, .int .i64 0, .int .i64 0] 30 (0, 0)) := (hb.block _ (by simp)).trans (heap_alloc_new w _)
  have hcell : ∀ i u, #[Value.string { data := #[] }, .int .i64 0, .int .i64 0, .int .i64 0, .int .i64 0][i]? = some u → w1.cell? ⟨w.heap.size, i, none⟩ = some u := fun i u hu => by
    rw [cell_of_row w1 _ i _ _ (0, 0) hblk]
    exact hu
  have c0 := hcell 0 (.string { data := #[] }) rfl
  have c1 := hcell 1 (.int .i64 0) rfl
  have c2 := hcell 2 (.int .i64 0) rfl
  have c3 := hcell 3 (.int .i64 0) rfl
  have c4 := hcell 4 (.int .i64 0) rfl
  have hfr : ∀ i, w1.frozen? ⟨w.heap.size, i, none⟩ = false := fun i => by
    simp [World.frozen?, hblk]
  have f0 := hfr 0
  have f1 := hfr 1
  have f2 := hfr 2
  have f3 := hfr 3
  have f4 := hfr 4
  have HBB : ∀ a0 a1 a2 a3 a4, Below w.heap.size w (((((w1.setCell ⟨w.heap.size, 0, none⟩ a0).setCell ⟨w.heap.size, 1, none⟩ a1).setCell ⟨w.heap.size, 2, none⟩ a2).setCell ⟨w.heap.size, 3, none⟩ a3).setCell ⟨w.heap.size, 4, none⟩ a4) := fun a0 a1 a2 a3 a4 =>
    ((((((Below.refl _ w).alloc (Nat.le_refl _) _).trans (hb.mono (by simp))).setCell (p := ⟨w.heap.size, 0, none⟩) (Nat.le_refl _) a0).setCell (p := ⟨w.heap.size, 1, none⟩) (Nat.le_refl _) a1).setCell (p := ⟨w.heap.size, 2, none⟩) (Nat.le_refl _) a2).setCell (p := ⟨w.heap.size, 3, none⟩) (Nat.le_refl _) a3 |>.setCell (p := ⟨w.heap.size, 4, none⟩) (Nat.le_refl _) a4
  have HBK := Lib.hid hblk
  clear hcell hfr hb hblk
  cases ys with
  | nil =>
    obtain ⟨o, c, rfl⟩ : ∃ (o : Option Addr) (c : Nat), v = .slice o 0 c := by
      rcases hown.2 with ⟨rfl, _⟩ | ⟨g, cap, cur, rfl, _⟩
      · exact ⟨_, _, rfl⟩
      · exact ⟨_, _, rfl⟩
    clear hown
    go_wp2
    refine bodyPost_ret (v := .tuple #[noPlace, .bool false]) ?_ rfl ⟨rfl, ?_⟩
    · rw [results_cell_tmp rfl]
      go_simp
      rfl
    · exact HBB _ _ _ _ _
  | cons y l =>
    obtain ⟨g, c, rfl, hg, hcc⟩ : ∃ (g : Nat) (c : Nat), v = .slice (some ⟨g, 0, none⟩) (l.length + 1) c ∧ w.heap.size < g ∧ ∀ i u, y.pcells[i]? = some u → w1.cell? ⟨g, i, none⟩ = some u := by
      rcases hown.2 with ⟨rfl, h⟩ | ⟨g, cap, cur, rfl, hg, hb, _, _, hcur, ht⟩
      · simp at h
      · refine ⟨g, cap, rfl, by simp at hg; omega, fun i u hu => ?_⟩
        rw [cell_of_row w1 _ i _ _ (0, 0) hb]
        have hi : i < 5 := by simpa [It.pcells] using (List.getElem?_eq_some_iff.1 hu).1
        have := pget (y :: l) 0 i y rfl hi
        rw [← ht, List.getElem?_take] at this
        simp at this
        rw [if_pos (by omega)] at this
        rw [this]
        exact hu
    have d0 := hcc 0 (.string y.pack) rfl
    have d1 := hcc 1 (.int .i64 y.kind) rfl
    have d2 := hcc 2 (.int .i64 y.off) rfl
    have d3 := hcc 3 (.int .i64 y.long) rfl
    have d4 := hcc 4 (.int .i64 y.size) rfl
    have hne : g ≠ w.heap.size := by omega
    clear hown hcc
    go_wp2
    refine bodyPost_ret (v := .tuple #[y.pval, .bool true]) ?_ rfl ⟨rfl, ?_⟩
    · rw [results_cell_tmp rfl]
      go_simp
      rfl
    · exact HBB _ _ _ _ _
/-- What the document's 'Drop' comes to. -/
def RDropped (w : World) (p : Nat) (v : Value) (l' : List It) (m : Nat) (e : Ending) (w' : World) : Prop :=
  ∃ v', e = .returned (.int .i64 m) ∧ RTab w' p v' l' ∧ But (· = p) w w' ∧ ∀ g, ROwn p v' g → ROwn p v g ∨ w.heap.size ≤ g
set_option maxHeartbeats 2000000 in
set_option maxRecDepth 100000 in
theorem rdrop_any (p : Nat) (v : Value) (l : List It) (s : ByteArray) (w : World) (ht : RTab w p v l) (hn : l.length ≤ 65536) :
    Calls Try.prog 19 #[.pointer (some ⟨p, 0, none⟩), .string s] w (RDropped w p v (l.filter (keeps s)) (gone s l)) := by
  obtain ⟨A, c, hv⟩ := ht.row.lenV
  obtain ⟨n, hnl⟩ : ∃ n, l.length = n := ⟨_, rfl⟩
  rw [hnl] at hv hn
  subst hv
  have HNL := Lib.hid hnl
  have HT := Lib.hid ht
  clear hnl ht
  go_enter Try.func19, Try.ntmps19
  go_wp2
  go_loopw [5, 6] (fun o a wr => ∃ k : Nat, a = .int .i64 k ∧ k ≤ n ∧ wr.ownsRow w.heap.size 32 6 o ((l.take k).filter (keeps s)).length (flat ((l.take k).filter (keeps s))) ∧ Below w.heap.size w wr) (fun _ a _ => n - (intOf a).toNat)
  case atStart => exact ⟨0, rfl, Nat.zero_le _, by simpa [flat] using World.ownsRow_nil _ _ _ _, Below.refl _ _⟩
  case round =>
    obtain ⟨k, rfl, hk, hown, hb⟩ := hrel
    have hcell := (HT.out.below hb).cell
    by_cases hkn : k < n
    · obtain ⟨x, hx⟩ : ∃ x, l[k]? = some x := ⟨_, List.getElem?_eq_getElem (by rw [HNL.out]; omega)⟩
      obtain ⟨g, rfl, hg, t0, t1, t2, t3, t4, t5⟩ := row_items_at HT.out.row hb hx rfl
      have hfl : ((l.take k).filter (keeps s)).length ≤ 65536 := by
        have := List.length_filter_le (keeps s) (l.take k)
        have : (l.take k).length ≤ k := List.length_take_le _ _
        omega
      have hfs := filter_take_succ (keeps s) l k x hx
      by_cases hid : (x.pack.toList == s.toList) = true
      · rw [show keeps s x = false by simp only [keeps, hid]; rfl, if_neg (by decide), List.append_nil] at hfs
        have HB := Lib.hid hb
        have hr2 : wr.ownsRow w.heap.size 32 6 u5 ((l.take (k + 1)).filter (keeps s)).length (flat ((l.take (k + 1)).filter (keeps s))) := by
          rw [hfs]; exact hown
        have hid2 : (!x.pack.toList == s.toList) = false := by rw [hid]; rfl
        have HR := Lib.hid hr2
        clear hx hown hb hfs hr2 hfl
        go_wp2
        go_roundw
        case rel => exact ⟨k + 1, by go_num, by omega, HR.out, HB.out⟩
        case measure => simp [intOf]; omega
      · have hid2 : (x.pack.toList == s.toList) = false := by simpa using hid
        have hid3 : (!x.pack.toList == s.toList) = true := by rw [hid2]; rfl
        rw [show keeps s x = true from hid3, if_pos rfl] at hfs
        obtain ⟨v', w', hrun, hrow', hbel⟩ := item_push w.heap.size wr _ _ _ x hown hb.size hfl
        have HB := Lib.hid (hbel w hb)
        have hr2 : w'.ownsRow w.heap.size 32 6 v' ((l.take (k + 1)).filter (keeps s)).length (flat ((l.take (k + 1)).filter (keeps s))) := by
          rw [hfs, flat_append, List.length_append]; simpa [flat] using hrow'
        have HR := Lib.hid hr2
        clear hx hown hb hfs hrow' hbel hr2 hfl hid
        go_wp2_with (at_builtin; refine Lib.wpList_append_run _ rfl (.tmp 28) (.tmp 36) _ _ rfl _ _ rfl rfl _ _ hrun ?_)
        go_roundw
        case rel => exact ⟨k + 1, by go_num, by omega, HR.out, HB.out⟩
        case measure => simp [intOf]; omega
    · rw [List.take_of_length_le (by rw [HNL.out]; omega)] at hown
      obtain ⟨m, hm⟩ : ∃ m, (l.filter (keeps s)).length = m := ⟨_, rfl⟩
      have hml : m ≤ n := by
        have := List.length_filter_le (keeps s) l
        rw [HNL.out] at this
        omega
      have hrow : Row wr u5 (l.filter (keeps s)) := by
        obtain ⟨h1, h2⟩ := hown
        refine ⟨h1, h2.imp id ?_⟩
        rintro ⟨g, cap, cur, h3, h4, h5⟩
        exact ⟨g, cap, cur, h3, Nat.zero_le _, h5⟩
      have hfz := (HT.out.below hb).frozen
      obtain ⟨A2, c2, rfl⟩ := hrow.lenV
      have HF : Hid (RDropped w p (.slice A n c) (l.filter (keeps s)) (gone s l) (.returned (.int .i64 ((n : Int) - m))) (wr.setCell ⟨p, 0, none⟩ (.slice A2 m c2))) := by
        obtain ⟨h1, h2⟩ := HT.out.set_ hb hrow
        rw [hm] at h1 h2
        refine ⟨_, ?_, h1, h2, fun g hg => ?_⟩
        · refine ret_int ?_
          unfold gone
          rw [HNL.out, hm]
          omega
        · rcases hg with rfl | hg
          · exact .inl (.inl rfl)
          · rw [hm] at hown
            exact .inr (hown.lt g hg).1
      rw [hm]
      clear hown hb hrow hm
      go_wp2
      go_ret
      exact HF.out
end Go.Proofs.Ytgigihlmpdpggaa
