import Derived.Test.YtgigihlmpdpggaaLkV
import Derived.Test.YtgigihlmpdpggaaShelf
import Derived.Sort.OwnSorted
import Derived.Lib.RowBridge
namespace Go.Proofs.Ytgigihlmpdpggaa
open Go.RowKit Go.Sort
def strs (ps : List ByteArray) : List Value := ps.map Value.string
theorem strs_enc (ps : List ByteArray) : strs ps = (ps.map fun p => p.data.toList).map encStr := by
  simp only [strs, List.map_map]
  exact List.map_congr_left fun p _ => by simp [encStr]
theorem strs_packs (ys : List It) : strs (ys.map It.pack) = (ys.map fun x => x.pack.data.toList).map encStr := by
  simp only [strs_enc, List.map_map]
  rfl
theorem compact_none : Lib.compact (([] : List (List UInt8)).mergeSort fun x y => decide (x ≤ y)) = [] := by
  rw [List.mergeSort_nil]; rfl
/-- The packs of a table, sorted, each once. -/
def packsOf (L : List (List It)) : List (List UInt8) := Lib.compact ((L.flatten.map fun x => x.pack.data.toList).mergeSort fun x y => decide (x ≤ y))
/-- What 'Packs' comes to. -/
def Packed (w : World) (L : List (List It)) (e : Ending) (w' : World) : Prop := ∃ v, e = .returned v ∧ w'.ownsRow w.heap.size 9 1 v (packsOf L).length ((packsOf L).map encStr) ∧ Below w.heap.size w w'
theorem ownsRow_less {w : World} {B : Nat} {t : TypeId} {g n m cap : Nat} {xs ys : List Value} (h : w.ownsRow B t 1 (.slice (some ⟨g, 0, none⟩) n cap) n (xs ++ ys)) (hm : xs.length = m) : w.ownsRow B t 1 (.slice (some ⟨g, 0, none⟩) m cap) m xs := by
  rcases h.2 with ⟨h0, _⟩ | ⟨g', cap', cur, hv, hg, hb, hn, hcap, hs, ht⟩
  · cases h0
  · cases hv
    have hl := h.1
    simp at hl
    refine ⟨by omega, .inr ⟨g, cap, cur, rfl, hg, hb, by omega, hcap, hs, ?_⟩⟩
    have : (cur.toList.take (n * 1)).take m = (xs ++ ys).take m := by rw [ht]
    rw [List.take_take, show min m (n * 1) = m * 1 by omega] at this
    rw [this, List.take_append_of_le_length (by omega), List.take_of_length_le (by omega)]
theorem ownsRow_base {w : World} {B C : Nat} {t : TypeId} {s n : Nat} {v : Value} {xs : List Value} (hB : B ≤ C) (h : w.ownsRow C t s v n xs) : w.ownsRow B t s v n xs := by
  obtain ⟨h1, h2⟩ := h
  refine ⟨h1, h2.imp id ?_⟩
  rintro ⟨g, cap, cur, h3, h4, h5⟩
  exact ⟨g, cap, cur, h3, Nat.le_trans hB h4, h5⟩
set_option maxHeartbeats 2000000 in
set_option maxRecDepth 100000 in
theorem packs_any (b : Nat) (V : List Value) (L : List (List It)) (w : World) (ht : Tab w b V L) (hlen : ∀ xs ∈ L, xs.length ≤ 65536) (hfew : L.flatten.length ≤ 65536) :
    Calls Try.prog 14 #[.pointer (some ⟨b, 0, none⟩)] w (Packed w L) := by
  obtain ⟨i0, hi0, hz0, hz1, hz2⟩ := info_parts str_info
  have HA := Lib.hid (all_any b V L w ht hlen)
  obtain ⟨ys, hys⟩ : ∃ ys, L.flatten = ys := ⟨_, rfl⟩
  rw [hys] at hfew
  have HPK : Hid (packsOf L = Lib.compact ((ys.map fun x => x.pack.data.toList).mergeSort fun x y => decide (x ≤ y))) := by rw [← hys]; rfl
  clear ht hlen
  go_enter Try.func14, Try.ntmps14
  go_wp2_with fail
  refine Calls.mono HA.out ?_
  rintro e w1 ⟨v, rfl, hown, hb⟩
  rw [hys] at hown
  have hrow : Row w1 v ys := by
    obtain ⟨h1, h2⟩ := hown
    refine ⟨h1, h2.imp id ?_⟩
    rintro ⟨g, cap, cur, h3, h4, h5⟩
    exact ⟨g, cap, cur, h3, Nat.zero_le _, h5⟩
  obtain ⟨A, c, rfl⟩ := hrow.lenV
  have HROW := Lib.hid hrow
  have HB := Lib.hid hb
  clear hown hb HA hrow hys
  go_wp2
  go_loopw [3, 9] (fun o i wr => ∃ k : Nat, i = .int .i64 k ∧ k ≤ ys.length ∧ wr.ownsRow w1.heap.size 9 1 o k (strs ((ys.take k).map It.pack)) ∧ Below w1.heap.size w1 wr) (fun _ i _ => ys.length - (intOf i).toNat)
  case atStart => exact ⟨0, rfl, Nat.zero_le _, World.ownsRow_nil _ _ _ _, Below.refl _ _⟩
  case round =>
    obtain ⟨k, rfl, hk, hown, hb⟩ := hrel
    have hs := hb.size
    by_cases hk2 : k < ys.length
    · obtain ⟨x, hx⟩ : ∃ x, ys[k]? = some x := ⟨_, List.getElem?_eq_getElem hk2⟩
      obtain ⟨cap, ⟨_, e⟩ | ⟨g, hgv, ho, hg, _⟩⟩ := HROW.out.form'
      · subst e; simp at hx
      · cases hgv
        obtain ⟨e0, e1, e2, e3, e4, e5⟩ := (HROW.out.at_ ho hx).below hb hg
        obtain ⟨W5, hW5⟩ : ∃ W5, W5 = (wr.alloc (.cells #[.string x.id, .string x.pack, .int .i64 x.kind, .int .i64 x.off, .int .i64 x.long, .int .i64 x.size] 32)).alloc (.cells #[.string x.pack] 9) := ⟨_, rfl⟩
        have hb5 : Below w1.heap.size w1 W5 := by rw [hW5]; exact (hb.alloc hs _).alloc (by simp; omega) _
        have hs5 : w1.heap.size ≤ W5.heap.size := hb5.size
        have hown5 : W5.ownsRow w1.heap.size 9 1 u3 k (strs ((ys.take k).map It.pack)) := by rw [hW5]; exact (hown.alloc _).alloc _
        have hq5 : W5.heap[wr.heap.size + 1]? = some (.cells #[.string x.pack] 9 (0, 0)) := by
          rw [hW5]; have := heap_alloc_new (wr.alloc (.cells #[.string x.id, .string x.pack, .int .i64 x.kind, .int .i64 x.off, .int .i64 x.long, .int .i64 x.size] 32)) (.cells #[.string x.pack] 9); simpa using this
        obtain ⟨v', w', hrun, hrow', hgrow, _⟩ := run_append_own_at (P := Try.prog) W5 w1.heap.size 41 41 9 i0 _ 1 16 Try.underlying41 hi0 hz0 hz1 hz2 rfl (by omega) u3 k (strs ((ys.take k).map It.pack)) hown5 ⟨wr.heap.size + 1, 0, none⟩ 1 1 [.string x.pack] rfl
          (fun j u hu => by rw [add_zero', cell_of_row W5 _ j _ _ (0, 0) hq5]; simpa using hu) (by intro u hu; simp at hu; subst hu; rfl) (by unfold maxLen; omega) (by omega) hs5
        have HB' := Lib.hid (hb5.grown hgrow hs5 (fun g' hg' => (hown5.lt g' hg').1))
        have hr2 : w'.ownsRow w1.heap.size 9 1 v' (k + 1) (strs ((ys.take (k + 1)).map It.pack)) := by
          rw [List.take_add_one, hx]
          simpa [strs] using hrow'
        have HR' := Lib.hid hr2
        rw [hW5] at hrun
        clear hr2 hx hown hb hW5 hb5 hs5 hown5 hq5 hrow' hgrow
        go_wp2_with (at_builtin; refine Lib.wpList_append_run _ rfl (.tmp 13) (.tmp 17) _ _ rfl _ _ rfl rfl _ _ hrun ?_)
        go_roundw
        case rel => exact ⟨k + 1, by go_num, by omega, HR'.out, HB'.out⟩
        case measure => simp [intOf]; omega
    · have hk3 : k = ys.length := by omega
      subst hk3
      obtain ⟨ss, hss⟩ : ∃ ss, (ys.map fun x => x.pack.data.toList) = ss := ⟨_, rfl⟩
      have hsl : ss.length = ys.length := by rw [← hss]; simp
      have hse : strs (ys.map It.pack) = ss.map encStr := by rw [strs_packs, hss]
      rw [List.take_of_length_le (Nat.le_refl _), hse] at hown
      rw [hss] at HPK
      have HBB := Lib.hid (HB.out.trans (hb.mono HB.out.size))
      rcases hown.2 with ⟨rfl, h0⟩ | ⟨g, cap, cur, rfl, hgb, hg, hcap, hm, hcs, hct⟩
      · have hss0 : ss = [] := List.eq_nil_of_length_eq_zero (by omega)
        have HS := Lib.hid (Try.slices_Sort_string_none none 0 wr)
        have HC := Lib.hid (Try.slices_Compact_string_empty none 0 wr)
        have HF : Hid (Packed w L (.returned (.slice none 0 0)) wr) := by
          refine ⟨_, rfl, ?_, HBB.out⟩
          rw [HPK.out, hss0, compact_none]
          exact World.ownsRow_nil _ _ _ _
        clear hown hb hs h0
        go_wp2_with fail
        refine Calls.mono HS.out ?_
        rintro e w2 ⟨rfl, rfl⟩
        go_wp2_with fail
        refine Calls.mono HC.out ?_
        rintro e w2 ⟨rfl, rfl⟩
        go_wp2
        go_ret
        exact HF.out
      · have hct' : cur.toList.take ss.length = ss.map encStr := by rw [hsl]; simpa using hct
        have hgs : g < wr.heap.size := (Array.getElem?_eq_some_iff.1 hg).1
        obtain ⟨ts, hts⟩ : ∃ ts, (ss.mergeSort fun x y => decide (x ≤ y)) = ts := ⟨_, rfl⟩
        have htl : ts.length = ys.length := by rw [← hts, List.length_mergeSort]; exact hsl
        have HS := Try.slices_Sort_string g 0 cap ss wr (holds_of_block hg hct') hgs (by omega)
        rw [hts, hsl] at HS
        have HS' := Lib.hid HS
        have HC := fun W hW => Try.slices_Compact_string g 0 cap ts W hW (by omega) (by omega)
        rw [htl] at HC
        have HC' := fun W hW => Lib.hid (HC W hW)
        have hle := Lib.compact_length_le ts
        rw [htl] at hle
        have HPK2 : Hid (packsOf L = Lib.compact ts) := by rw [HPK.out, hts]; rfl
        have hos := fun (n : Nat) (os : Array Obj) => ownsRow_sorted (n := n) (os := os) (base := w1.heap.size) (htl.trans hsl.symm) hgb hg (by omega) hm (by simpa using hcs)
        have HOS := Lib.hid hos
        have HHP := fun (n : Nat) (os : Array Obj) => Lib.hid (heap_sorted (n := n) (os := os) ts.toArray hg)
        have HGR := fun (n : Nat) (os : Array Obj) => Lib.hid (grownBy_sorted (n := n) (os := os) (w := wr) (g := g) ts.toArray)
        have hcur : ys.length ≤ cur.size := by simp at hcs; omega
        have HB2 := Lib.hid hb
        have HSZ := Lib.hid hcs
        clear hown hb hs hcs hct hct' hg HS HC hos
        go_wp2_with fail
        refine Calls.mono HS'.out ?_
        rintro e w2 ⟨rfl, n, os, hw2⟩
        have HH2 : Hid (w2.heap[g]? = some (.cells (putCells encStr 0 ts.toArray cur) 9 (0, 0))) := by rw [hw2]; exact (HHP n os).out
        have HGR2 : Hid (wr.grownBy w2 (some g)) := by rw [hw2]; exact (HGR n os).out
        clear hw2 HOS HHP HGR HS'
        have hct2 : (putCells encStr 0 ts.toArray cur).toList.take ts.length = ts.map encStr := take_putCells cur ts (by omega)
        go_wp2_with fail
        refine Calls.mono (HC' _ (holds_of_block HH2.out hct2)).out ?_
        rintro e w3 ⟨rfl, q, hw3⟩
        have hl3 : (Lib.compact ts ++ List.replicate (ys.length - (Lib.compact ts).length) []).length = ts.length := by simp; omega
        have h3 := ownsRow_sorted (n := q) (os := #[]) (base := w1.heap.size) (ss := ts) (ts := Lib.compact ts ++ List.replicate (ys.length - (Lib.compact ts).length) []) hl3 hgb HH2.out (by omega) hm (by simpa [putCells] using HSZ.out)
        rw [grow_empty, ← hw3, List.map_append] at h3
        have hg3 := grownBy_sorted (n := q) (os := #[]) (w := w2) (g := g) (Lib.compact ts ++ List.replicate (ys.length - (Lib.compact ts).length) []).toArray
        rw [grow_empty, ← hw3] at hg3
        have HF : Hid (Packed w L (.returned (.slice (some ⟨g, 0, none⟩) (Lib.compact ts).length cap)) w3) := by
          refine ⟨_, rfl, ?_, ?_⟩
          · rw [HPK2.out]
            exact ownsRow_base HB.out.size (ownsRow_less h3 (by simp))
          · have hgg : ∀ k, some g = some k → w.heap.size ≤ k := fun k e => by cases e; exact Nat.le_trans HB.out.size hgb
            exact (HBB.out.grown HGR2.out HBB.out.size hgg).grown hg3 (Nat.le_trans HBB.out.size HGR2.out.size) hgg
        clear hw3 h3 hg3 hl3
        go_wp2
        go_ret
        exact HF.out
end Go.Proofs.Ytgigihlmpdpggaa
