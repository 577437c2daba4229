import Derived.Test.YtgigihlmpdpggaaLkQ
namespace Go.Proofs.Ytgigihlmpdpggaa
open Go.RowKit
theorem rep_toList (n : Int) : (rep n).toList = List.replicate 32 (UInt8.ofNat n.toNat) := by rw [Lib.toList_data]; simp [rep]
def exId : ByteArray := rep 13
def exA : It := ⟨exId, rep 99, 1, 5, 5, 3⟩
def exB : It := ⟨exId, rep 98, 1, 9, 5, 3⟩
theorem ex_a : itemOf 1 2 5 = exA := rfl
theorem ex_b : itemOf 1 1 9 = exB := rfl
theorem ex_c : itemOf 1 0 0 = ⟨exId, rep 97, 1, 0, 5, 3⟩ := rfl
theorem ex_slot : slot exId = 13 := by rfl
theorem ex_okA : exA.ok = true := by rfl
theorem ex_okB : exB.ok = true := by rfl
theorem ex_ord : exA.ord exB = 1 := by
  simp only [It.ord, It.cmps, exA, exB, exId, cmpS, rep_toList]
  rfl
theorem ex_ins : ins exB (ins exA []) = [exB, exA] := by
  have h : ins exA [] = [exA] := by simp [ins, pos]
  have hp : pos exB [exA] = 0 := by simp [pos, ex_ord]
  rw [h]
  unfold ins
  rw [hp]
  simp [ex_ord]
theorem ex_keepA : keeps (rep 98) exA = true := by
  simp only [keeps, exA, rep_toList]
  rfl
theorem ex_keepB : keeps (rep 98) exB = false := by
  simp only [keeps, exB, rep_toList]
  rfl
theorem ex_pos (l : List It) : posS exId (exA :: l) = 0 ∧ posS exId (exB :: l) = 0 := by
  have h : cmpS exId exId = 0 := by simp only [cmpS, exId, rep_toList]; rfl
  have hA : exA.id = exId := rfl
  have hB : exB.id = exId := rfl
  constructor <;> simp [posS, hA, hB, h]
theorem ex_hits1 : hits exId [exB, exA] = [exB, exA] := by
  have hA : exA.id = exId := rfl
  have hB : exB.id = exId := rfl
  unfold hits
  rw [(ex_pos [exA]).2]
  simp [List.takeWhile, hA, hB]
theorem ex_hits2 : hits exId [exA] = [exA] := by
  have hA : exA.id = exId := rfl
  unfold hits
  rw [(ex_pos []).1]
  simp [List.takeWhile, hA]
def emptyV : List Value := List.replicate 256 (.slice none 0 0)
def emptyL : List (List It) := List.replicate 256 []
theorem emptyV_cells : emptyCells = emptyV.toArray := by unfold emptyCells emptyV; rw [List.toArray_replicate]
theorem emptyL_at {i : Nat} {xs : List It} (h : emptyL[i]? = some xs) : xs = [] := by
  rw [emptyL, List.getElem?_replicate] at h
  split at h <;> cases h
  rfl
theorem emptyV_at {i : Nat} {v : Value} (h : emptyV[i]? = some v) : v = .slice none 0 0 := by
  rw [emptyV, List.getElem?_replicate] at h
  split at h <;> cases h
  rfl
theorem tab_new {w : World} {b : Nat} (h : w.heap[b]? = some (.cells emptyCells 57 (0, 0))) : Tab w b emptyV emptyL := by
  refine ⟨by rw [← emptyV_cells]; exact h, by unfold emptyV; rw [List.length_replicate], by unfold emptyL; rw [List.length_replicate], ?_, ?_⟩
  · intro i v xs hv hx
    rw [emptyV_at hv, emptyL_at hx]
    exact World.ownsRow_nil _ _ _ _
  · intro i j v u g _ hv _ hg
    rw [emptyV_at hv] at hg
    cases hg
theorem own_new {b g : Nat} (h : Own b emptyV g) : g = b := by
  rcases h with h | ⟨i, v, hv, hg⟩
  · exact h
  · rw [emptyV_at hv] at hg
    cases hg
theorem modify_empty (f : List It → List It) : emptyL.modify 13 f = List.replicate 13 [] ++ f [] :: List.replicate 242 [] := rfl
theorem modify_again (f : List It → List It) (x : List It) : (List.replicate 13 [] ++ x :: List.replicate 242 []).modify 13 f = List.replicate 13 [] ++ f x :: List.replicate 242 [] := rfl
def exL : List (List It) := [exA, exB].foldl addOne emptyL
theorem exL_at : exL[13]? = some [exB, exA] := by
  simp only [exL, List.foldl_cons, List.foldl_nil, addOne]
  rw [show slot exB.id = 13 from ex_slot, show slot exA.id = 13 from ex_slot]
  simp only [List.getElem?_modify, emptyL, List.getElem?_replicate]
  simp [ex_ins]
theorem exL_other {i : Nat} {xs : List It} (hi : i ≠ 13) (h : exL[i]? = some xs) : xs = [] := by
  simp only [exL, List.foldl_cons, List.foldl_nil, addOne] at h
  rw [show slot exB.id = 13 from ex_slot, show slot exA.id = 13 from ex_slot] at h
  simp only [List.getElem?_modify] at h
  have hi' : ¬ 13 = i := fun e => hi e.symm
  cases he : emptyL[i]? with
  | none => rw [he] at h; simp at h
  | some ys =>
    rw [he] at h
    simp [hi'] at h
    rw [← h]
    exact emptyL_at he
theorem exL_eq : exL = List.replicate 13 [] ++ [exB, exA] :: List.replicate 242 [] := by
  simp only [exL, List.foldl_cons, List.foldl_nil, addOne]
  rw [show slot exB.id = 13 from ex_slot, show slot exA.id = 13 from ex_slot, modify_empty, modify_again, ex_ins]
theorem ex_len : ∀ xs ∈ exL, xs.length ≤ 65536 := by
  intro xs hx
  rw [exL_eq] at hx
  simp only [List.mem_append, List.mem_cons, List.mem_replicate] at hx
  rcases hx with ⟨_, rfl⟩ | rfl | ⟨_, rfl⟩ <;> simp
theorem ex_filter : [exB, exA].filter (keeps (rep 98)) = [exA] := by simp [ex_keepA, ex_keepB]
set_option maxRecDepth 10000 in
theorem ex_gone : goneTo (rep 98) 256 exL = 1 := by
  unfold goneTo
  have h0 : gone (rep 98) [] = 0 := rfl
  have h1 : gone (rep 98) [exB, exA] = 1 := by unfold gone; rw [ex_filter]; rfl
  rw [exL_eq, List.take_of_length_le (by rw [List.length_append, List.length_cons, List.length_replicate, List.length_replicate]; omega)]
  simp only [List.map_append, List.map_cons, List.map_replicate, h0, h1, List.sum_append, List.sum_cons]
  rfl
theorem ex_after : (exL.map (·.filter (keeps (rep 98))))[13]? = some [exA] := by
  rw [List.getElem?_map, exL_at]
  simp only [Option.map_some, ex_filter]
theorem ex_rising : Rising [exB, exA] := by
  have := (ord_pre).anti exA exB
  have h1 := ex_ord
  simp [Rising]
  omega
theorem But.below {S : Nat → Prop} {B : Nat} {w w' : World} (h : But S w w') (hB : B ≤ w.heap.size) (hs : ∀ k, k < B → ¬ S k) : Below B w w' :=
  ⟨h.os, h.tape, h.output, h.size, fun k hk => h.block k (Nat.lt_of_lt_of_le hk hB) (hs k hk)⟩
theorem ex_cells (w : World) (h : Nat) (hh : w.heap[h]? = some (.cells (exA.cells ++ exB.cells).toArray 32 (0, 0))) : ∀ i x, [exA, exB][i]? = some x → CellsAt w h (i * 6) x := by
  have hc : ∀ j u, (exA.cells ++ exB.cells)[j]? = some u → w.cell? ⟨h, j, none⟩ = some u := fun j u hu => by
    rw [cell_of_row w h j _ _ (0, 0) hh]; simpa using hu
  intro i x hx
  match i, hx with
  | 0, hx => cases hx; exact ⟨hc 0 _ rfl, hc 1 _ rfl, hc 2 _ rfl, hc 3 _ rfl, hc 4 _ rfl, hc 5 _ rfl⟩
  | 1, hx => cases hx; exact ⟨hc 6 _ rfl, hc 7 _ rfl, hc 8 _ rfl, hc 9 _ rfl, hc 10 _ rfl, hc 11 _ rfl⟩
theorem field_id (w : World) (a b c d e f : Value) : (Instr.field 32 (.agg #[a, b, c, d, e, f]) 0).run Try.prog w = .ok a w := by
  simp [Instr.field, run_underlying Try.underlying32, part, asAgg, Result.andThen]
set_option maxHeartbeats 1000000 in
set_option maxRecDepth 100000 in
theorem works_any (w : World) : Calls Try.prog 6 #[] w fun e w' => e = .returned (.bool true) ∧ Below w.heap.size w w' := by
  have HI := fun i p o W => Lib.hid (item_any i p o W)
  go_enter Try.func6, Try.ntmps6
  go_wp2_with fail
  refine Calls.mono (new_any _) ?_
  rintro e w0 ⟨rfl, hw0⟩
  have hblk : w0.heap[w.heap.size]? = some (.cells emptyCells 57 (0, 0)) := by rw [hw0]; exact heap_alloc_new w _
  have HT0 := Lib.hid (tab_new hblk)
  have HB0 : Hid (Below w.heap.size w w0) := by rw [hw0]; exact (Below.refl _ _).alloc (Nat.le_refl _) _
  have hlt0 : w.heap.size < w0.heap.size := HT0.out.lt
  clear hw0 hblk
  go_wp2_with fail
  refine Calls.mono (HI 1 2 5 _).out ?_
  rw [ex_a]
  rintro e w1 ⟨rfl, hb1⟩
  have HB1 := Lib.hid hb1
  clear hb1
  go_wp2_with fail
  refine Calls.mono (HI 1 1 9 _).out ?_
  rw [ex_b]
  rintro e w2 ⟨rfl, hb2⟩
  have HB2 : Hid (Below w0.heap.size w0 w2) := HB1.out.trans (hb2.mono HB1.out.size)
  clear hb2 HB1
  go_wp2_with fail
  refine Calls.mono (add_any w.heap.size w2.heap.size 2 emptyV emptyL [exA, exB] _ (by simp) ?_ ?_ ?_ ?_ ?_ ?_ ?_) ?_
  · exact HT0.out.but (S := fun _ => False) (But.of_below (HB2.out.trans ((Below.refl _ _).alloc HB2.out.size _))) (fun _ _ h => h)
  · intro i xs hx
    rw [emptyL_at hx]
    exact List.Pairwise.nil
  · intro i xs hx
    rw [emptyL_at hx]
    simp
  · simp
  · intro ho
    have := own_new ho
    have := HB2.out.size
    omega
  · exact ex_cells _ _ (heap_alloc_new w2 _)
  · intro x hx
    simp at hx
    rcases hx with rfl | rfl
    · exact ex_okA
    · exact ex_okB
  rintro e w3 ⟨rfl, V1, ht1, hbut1, hown1⟩
  have HT1 : Hid (Tab w3 w.heap.size V1 exL) := Lib.hid ht1
  have HB3 : Hid (Below w.heap.size w w3) := Lib.hid (HB0.out.trans ((HB2.out.mono (Nat.le_of_lt hlt0)).trans (((Below.refl _ _).alloc (by have := HB2.out.size; omega) _).trans (hbut1.below (by have := HB2.out.size; simp; omega) fun k hk ho => by have := own_new ho; omega))))
  have hlt3 : w.heap.size < w3.heap.size := HT1.out.lt
  have HOWN : Hid (∀ g, Own w.heap.size V1 g → w.heap.size ≤ g) := Lib.hid fun g hg => by
    rcases hown1 g hg with h | h
    · have := own_new h; omega
    · have := HB2.out.size; simp at h; omega
  clear ht1 hbut1 hown1 HT0 HB0 HB2
  go_wp2_with fail
  refine Calls.mono (HI 1 0 0 _).out ?_
  rw [ex_c]
  rintro e w4 ⟨rfl, hb4⟩
  have HT4 : Hid (Tab w4 w.heap.size V1 exL) := HT1.out.but (S := fun _ => False) (But.of_below hb4) (fun _ _ h => h)
  have HB4 := Lib.hid (HB3.out.trans (hb4.mono HB3.out.size))
  clear hb4 HB3
  simp only [It.val]
  go_wp2_with fail
  rw [field_id]
  simp only [Result.andThen]
  rw [Oper.upon_value]
  go_wp2_with fail
  refine Calls.mono (get_any w.heap.size V1 exL exId [exB, exA] _ HT4.out (by rw [ex_slot]; exact exL_at) ex_rising (by simp)) ?_
  rw [ex_hits1]
  rintro e w5 ⟨rfl, hb5⟩
  have HT5 : Hid (Tab w5 w.heap.size V1 exL) := HT4.out.but (S := fun _ => False) (But.of_below hb5) (fun _ _ h => h)
  have HB5 := Lib.hid (HB4.out.trans (hb5.mono HB4.out.size))
  clear hb5 HB4 HT4 HT1
  simp only [List.head?_cons, Option.map_some, Option.getD_some, Option.isSome_some, It.pval]
  go_wp2_with fail
  have ht5 : Tab (w5.alloc (.cells #[.string exB.pack, .int .i64 exB.kind, .int .i64 exB.off, .int .i64 exB.long, .int .i64 exB.size] 30)) w.heap.size V1 exL := HT5.out.but (S := fun _ => False) (But.of_below ((Below.refl _ _).alloc (Nat.le_refl _) _)) (fun _ _ h => h)
  refine Calls.mono (drop_any w.heap.size V1 exL (rep 98) _ ht5 ex_len) ?_
  rintro e w6 ⟨V2, rfl, ht6, hbut6, _⟩
  rw [ex_gone]
  have hblk6 : w6.heap[w5.heap.size]? = some (.cells #[.string exB.pack, .int .i64 exB.kind, .int .i64 exB.off, .int .i64 exB.long, .int .i64 exB.size] 30 (0, 0)) :=
    (hbut6.block _ (by simp) (fun ho => absurd (HT5.out.own_lt ho) (Nat.lt_irrefl _))).trans (heap_alloc_new w5 _)
  have HT6 := Lib.hid ht6
  have HB6 : Hid (Below w.heap.size w w6) := Lib.hid (HB5.out.trans (((Below.refl _ _).alloc HB5.out.size _).trans (hbut6.below (by have := HB5.out.size; simp; omega) fun k hk ho => by have := HOWN.out k ho; omega)))
  have HBK6 := Lib.hid hblk6
  have hlt6 : w5.heap.size < w6.heap.size := (Array.getElem?_eq_some_iff.1 hblk6).1
  have hlt5 : w.heap.size < w5.heap.size := HT5.out.lt
  clear ht5 ht6 hbut6 hblk6 HT5 HB5 HOWN
  go_wp2_with fail
  refine Calls.mono (HI 1 0 0 _).out ?_
  rw [ex_c]
  rintro e w7 ⟨rfl, hb7⟩
  have HT7 : Hid (Tab w7 w.heap.size V2 (exL.map (·.filter (keeps (rep 98))))) := HT6.out.but (S := fun _ => False) (But.of_below hb7) (fun _ _ h => h)
  have HB7 := Lib.hid (HB6.out.trans (hb7.mono HB6.out.size))
  have HBK7 := Lib.hid ((hb7.block _ hlt6).trans HBK6.out)
  have hlt7 : w5.heap.size < w7.heap.size := Nat.lt_of_lt_of_le hlt6 hb7.size
  clear hb7 HB6 HT6 HBK6
  simp only [It.val]
  go_wp2_with fail
  rw [field_id]
  simp only [Result.andThen]
  rw [Oper.upon_value]
  go_wp2_with fail
  refine Calls.mono (get_any w.heap.size V2 _ exId [exA] _ HT7.out (by rw [ex_slot]; exact ex_after) (List.pairwise_singleton _ _) (by simp)) ?_
  rw [ex_hits2]
  rintro e w8 ⟨rfl, hb8⟩
  have HB8 := Lib.hid (HB7.out.trans (hb8.mono HB7.out.size))
  have hblk8 := (hb8.block _ hlt7).trans HBK7.out
  have hlt8 : w5.heap.size < w8.heap.size := Nat.lt_of_lt_of_le hlt7 hb8.size
  have hc2 : w8.cell? ⟨w5.heap.size, 2, none⟩ = some (.int .i64 9) := by
    rw [cell_of_row w8 _ 2 _ _ (0, 0) hblk8]; rfl
  have hc2' : ∀ o, (w8.alloc o).cell? ⟨w5.heap.size, 2, none⟩ = some (.int .i64 9) := fun o => by
    rw [World.cell?_of_block (a := ⟨w5.heap.size, 2, none⟩) (Below.heap_alloc w8 o _ hlt8)]; exact hc2
  clear hb8 HB7 HT7 HBK7 hblk8
  simp only [List.head?_cons, Option.map_some, Option.getD_some, Option.isSome_some, It.pval]
  go_wp2_with fail
  go_ret
  exact ⟨rfl, HB8.out.alloc HB8.out.size _⟩
end Go.Proofs.Ytgigihlmpdpggaa
