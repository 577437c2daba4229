/-
  A table to which any items are added, in any order, and of which packs are dropped, has, one after the other, the items that the document has, and finds them so. Conditions: none.
-/
import Derived.Test.YtgigihlmpdpggaaRows
import Derived.Test.YtgigihlmpdpggaaLift
import Derived.Test.YtgigihlmpdpggaaQo
namespace Go.Proofs.Ytgigihlmpdpggaa
open Go.ChangeShapes Go.WideShapes Go.ChangeAt Go.RowKit
section
variable {H : Type} {enc : TypeId × Value → H}
theorem item_cells : Try.prog.cellsOf 32 = 6 ∧ Try.prog.cellsOf 30 = 5 ∧ Try.prog.cellsOf 9 = 1 ∧ Try.prog.cellsOf 3 = 1 ∧ Try.prog.cellsOf 50 = 2 ∧ Try.prog.cellsOf 35 = 1 := ⟨by kernel_rfl, by kernel_rfl, by kernel_rfl, by kernel_rfl, by kernel_rfl, by kernel_rfl⟩
set_option maxRecDepth 100000 in
theorem item_of {W : World} {base : Nat} {spare : Nat → Bool} {held : Bool} {fuel : Nat} {cs : List Value} {y : DataW H × List MemPlace} (hlen : cs.length = 6) (hf : DataW.trod enc Try.prog W base spare held fuel 32 cs = some y) : ∃ x : It, cs = x.cells := by
  obtain ⟨c6, c5, c1, ci, _, _⟩ := item_cells
  match cs, hlen with
  | [a0, a1, a2, a3, a4, a5], _ =>
    obtain ⟨xs, n, _, hx, _, hlen, hg⟩ := DataW.trod_struct Try.underlying32 hf
    match xs, hlen with
    | [y0, y1], _ =>
      have g0 := hg 0 _ rfl
      have g1 := hg 1 _ rfl
      obtain ⟨s0, e0, _, _⟩ := DataW.trod_string Try.underlying9 (x := y0) (by simpa [c1, c5] using g0)
      obtain ⟨zs, m, _, hz, _, hlen2, hk⟩ := DataW.trod_struct Try.underlying30 (x := y1) (by simpa [c1, c5] using g1)
      match zs, hlen2 with
      | [z0, z1, z2, z3, z4], _ =>
        have k0 := hk 0 _ rfl
        have k1 := hk 1 _ rfl
        have k2 := hk 2 _ rfl
        have k3 := hk 3 _ rfl
        have k4 := hk 4 _ rfl
        obtain ⟨s1, f0, _, _⟩ := DataW.trod_string Try.underlying9 (x := z0) (by simpa [c1, ci] using k0)
        obtain ⟨n1, f1, _, _⟩ := DataW.trod_int Try.underlying3 (x := z1) (by simpa [c1, ci] using k1)
        obtain ⟨n2, f2, _, _⟩ := DataW.trod_int Try.underlying3 (x := z2) (by simpa [c1, ci] using k2)
        obtain ⟨n3, f3, _, _⟩ := DataW.trod_int Try.underlying3 (x := z3) (by simpa [c1, ci] using k3)
        obtain ⟨n4, f4, _, _⟩ := DataW.trod_int Try.underlying3 (x := z4) (by simpa [c1, ci] using k4)
        simp only [List.cons.injEq, and_true] at e0 f0 f1 f2 f3 f4
        subst e0 f0 f1 f2 f3 f4
        exact ⟨⟨s0, s1, n1, n2, n3, n4⟩, rfl⟩
set_option maxRecDepth 100000 in
theorem open_item {W : World} {base : Nat} {spare : Nat → Bool} {held : Bool} {r : Reach} {b0 : Nat} {v : Value} {d : DataW H} {p : List MemPlace} (hv : Value.okWide Try.prog W r b0 32 v) (h : DataW.Trod enc Try.prog W base spare held 32 v d p) : ∃ x : It, v = x.val := by
  obtain ⟨c6, _⟩ := item_cells
  obtain ⟨cs, rfl, hsz⟩ := okWide_struct Try.underlying32 hv
  obtain ⟨l⟩ := cs
  obtain ⟨fuel, hf⟩ := h
  obtain ⟨x, hx⟩ := item_of (cs := l) (by simpa using hsz.trans c6) (by simpa [Value.cells] using hf)
  exact ⟨x, by rw [hx]; rfl⟩
theorem spot_none {W : World} {b off : Nat} {spot : Option _} {v : Value} (h : W.cell? ⟨b, off, spot⟩ = some v) : spot = none := by simpa using World.cell?_spot h
set_option maxRecDepth 100000 in
theorem open_items {W : World} {fuel : Nat} {cs : List Value} {y : DataW H × List MemPlace} (hf : DataW.trod enc Try.prog W 0 (fun _ => true) true fuel 35 cs = some y) : ∃ (A : Option Addr) (c : Nat) (xs : List It), cs = [.slice A xs.length c] ∧ ItemsAt W A xs := by
  obtain ⟨c6, _⟩ := item_cells
  rcases Deep.open_slice Try.underlying35 hf with ⟨hcs, _⟩ | ⟨a, len, cap, m, n, D, Pl, hcs, _, hl, hm, hmm, hx, hel⟩
  · exact ⟨none, 0, [], hcs, .inl rfl⟩
  · rw [if_pos rfl] at hmm
    subst hmm
    rw [c6] at hel hx
    have hg : ∀ i, i < len → ∃ x : It, ∀ j u, x.cells[j]? = some u → W.cell? ((a.add (i * 6)).add j) = some u := by
      intro i hi
      obtain ⟨cs', h1, h2⟩ := hel i (by omega)
      obtain ⟨_, hlen, hc⟩ := World.cells?_some h1
      obtain ⟨x, rfl⟩ := item_of hlen h2
      refine ⟨x, fun j u hu => ?_⟩
      rw [hc j (by rw [← hlen]; exact (List.getElem?_eq_some_iff.1 hu).1), hu]
    obtain ⟨f, hf2⟩ : ∃ f : Nat → It, ∀ i, i < len → ∀ j u, (f i).cells[j]? = some u → W.cell? ((a.add (i * 6)).add j) = some u := by
      classical
      refine ⟨fun i => if hi : i < len then Classical.choose (hg i hi) else ⟨ByteArray.empty, ByteArray.empty, 0, 0, 0, 0⟩, fun i hi => ?_⟩
      simp only [dif_pos hi]
      exact Classical.choose_spec (hg i hi)
    refine ⟨some a, _, (List.range len).map f, by rw [hcs, List.length_map, List.length_range], ?_⟩
    rcases Nat.eq_zero_or_pos len with h0 | h0
    · subst h0; exact .inl rfl
    · obtain ⟨b, off, spot⟩ := a
      have h00 := hf2 0 h0 0 _ rfl
      have hspot : spot = none := by simpa [Addr.add] using World.cell?_spot h00
      subst hspot
      refine .inr ⟨b, off, rfl, World.block_lt_of_cell? W _ h00, fun i x hx => ?_⟩
      have hi : i < len := by have := (List.getElem?_eq_some_iff.1 hx).1; simpa using this
      have he : x = f i := by simp [hi] at hx; exact hx.symm
      subst he
      have hc := fun j u hu => hf2 i hi j u hu
      have hc2 : ∀ j u, (f i).cells[j]? = some u → W.cell? ⟨b, off + i * 6 + j, none⟩ = some u := fun j u hu => by
        have := hc j u hu
        rw [Go.WideShapes.add_plain, Go.WideShapes.add_plain] at this
        exact this
      exact ⟨hc2 0 _ rfl, hc2 1 _ rfl, hc2 2 _ rfl, hc2 3 _ rfl, hc2 4 _ rfl, hc2 5 _ rfl⟩
set_option maxRecDepth 100000 in
theorem open_acts {W : World} {r : Reach} {b0 : Nat} {v : Value} {d : DataW H} {p : List MemPlace} (hv : Value.okWide Try.prog W r b0 45 v) (h : DataW.Trod enc Try.prog W 0 (fun _ => true) true 45 v d p) :
    ∃ (A : Option Addr) (acts : List Act) (c : Nat), v = .slice A acts.length c ∧ Acts W A acts ∧ acts.length ≤ maxLen := by
  obtain ⟨c6, c5, c1, ci, c2, cl⟩ := item_cells
  obtain ⟨a0, len, cap, rfl⟩ := okWide_slice Try.underlying45 hv
  obtain ⟨fuel, hf⟩ := h
  rcases Deep.open_slice Try.underlying45 hf with ⟨hcs, _⟩ | ⟨a, len', cap', m, n, D, Pl, hcs, _, hl, hm, hmm, hx, hel⟩
  · simp only [Value.cells, List.cons.injEq, and_true] at hcs
    injection hcs with e1 e2 e3
    subst e1 e2 e3
    exact ⟨none, [], 0, rfl, .inl rfl, Nat.zero_le _⟩
  · simp only [Value.cells, List.cons.injEq, and_true] at hcs
    injection hcs with e1 e2 e3
    subst e1 e2 e3
    rw [if_pos rfl] at hmm
    subst hmm
    rw [c2] at hel hx
    have hg : ∀ i, i < len → ∃ t : Act, W.cell? (a.add (i * 2)) = some (.int .i64 t.kind) ∧ W.cell? ((a.add (i * 2)).add 1) = some (.slice t.addr t.items.length t.cap) ∧ ItemsAt W t.addr t.items := by
      intro i hi
      obtain ⟨cs', h1, h2⟩ := hel i (by omega)
      obtain ⟨_, hlen, hc⟩ := World.cells?_some h1
      match cs', hlen with
      | [v0, v1], _ =>
        obtain ⟨xs, k, _, _, _, hlen2, hg⟩ := DataW.trod_struct Try.underlying50 h2
        match xs, hlen2 with
        | [y0, y1], _ =>
          have g0 := hg 0 _ rfl
          have g1 := hg 1 _ rfl
          obtain ⟨n0, f0, _, _⟩ := DataW.trod_int Try.underlying3 (x := y0) (by simpa [ci, cl] using g0)
          obtain ⟨A1, c1', ys, f1, hits⟩ := open_items (y := y1) (by simpa [ci, cl] using g1)
          simp only [List.cons.injEq, and_true] at f0 f1
          subst f0 f1
          have h0 := hc 0 (by omega)
          exact ⟨⟨n0, A1, c1', ys⟩, by simpa [Addr.add] using h0, hc 1 (by omega), hits⟩
    obtain ⟨f, hf2⟩ : ∃ f : Nat → Act, ∀ i, i < len → W.cell? (a.add (i * 2)) = some (.int .i64 (f i).kind) ∧ W.cell? ((a.add (i * 2)).add 1) = some (.slice (f i).addr (f i).items.length (f i).cap) ∧ ItemsAt W (f i).addr (f i).items := by
      classical
      refine ⟨fun i => if hi : i < len then Classical.choose (hg i hi) else ⟨0, none, 0, []⟩, fun i hi => ?_⟩
      simp only [dif_pos hi]
      exact Classical.choose_spec (hg i hi)
    refine ⟨some a, (List.range len).map f, _, by rw [List.length_map, List.length_range], ?_, by rw [List.length_map, List.length_range]; omega⟩
    rcases Nat.eq_zero_or_pos len with h0 | h0
    · subst h0; exact .inl rfl
    · obtain ⟨b, off, spot⟩ := a
      have hspot : spot = none := by simpa [Addr.add] using World.cell?_spot (hf2 0 h0).1
      subst hspot
      refine .inr ⟨b, off, rfl, World.block_lt_of_cell? W _ (hf2 0 h0).1, fun i t ht => ?_⟩
      have hi : i < len := by have := (List.getElem?_eq_some_iff.1 ht).1; simpa using this
      have he : t = f i := by simp [hi] at ht; exact ht.symm
      subst he
      obtain ⟨q0, q1, q2⟩ := hf2 i hi
      rw [Go.WideShapes.add_plain] at q0 q1
      rw [Go.WideShapes.add_plain] at q1
      exact ⟨q0, q1, q2⟩
end
set_option maxRecDepth 100000 in
theorem plays_lifted (os : Os) (started : os.Started) (H : Type) (enc : TypeId × Value → H) :
    ReturnsInHanded {} Try.checked os 4 .any (Rows.lookupPlaysSpec.pre6 enc Try.prog Try.f4 Rows.lookupPlaysRow.domain false) (Rows.lookupPlaysSpec.post enc Try.prog Try.f4 false true false false) := by
  refine returnsInHanded_of_change (C := Try.checked) ownKnob_none started (by kernel_rfl) Try.func4
    (ChangeSpec.witness6 (enc := enc) (C := Try.checked) false ⟨#[], #[.slice none 0 0, .agg #[.string ByteArray.empty, .string ByteArray.empty, .int .i64 0, .int .i64 0, .int .i64 0, .int .i64 0]], []⟩ 8 (by kernel_rfl) (by kernel_rfl) (by kernel_rfl) (by kernel_rfl)) ?_
  intro W base args ds gs before hval0 hW hcnd _
  have hval : ∀ (j : Nat) t v, Try.f4.params[j]? = some t → args[j]? = some v → Value.okWide Try.prog W .any base t v := hval0
  have hW' := hW
  have hlt0 : ∀ p ∈ before, p.block < W.heap.size := fun p hp => hW.lt p hp
  obtain ⟨p, q, hA0, hV, rfl, hfz, hnd⟩ := hW
  have hA : DataW.TrodAll enc Try.prog W 0 (fun _ => true) true Try.f4.params.toList args.toList ds p := hA0
  rw [Try.params4] at hA hval
  obtain ⟨v0, v1, d0, d1, p0, p1, rfl, rfl, rfl, h0, h1⟩ := trodAll_two hA
  obtain ⟨rfl, rfl⟩ := trodVars_none hV
  simp only [List.append_nil] at hW' hlt0
  obtain ⟨A, acts, c, rfl, hz, hcm⟩ := open_acts (hval 0 45 v0 rfl rfl) h0
  obtain ⟨x, rfl⟩ := open_item (hval 1 32 v1 rfl rfl) h1
  clear hA0 hval0
  refine (plays_walk A c acts x W hz hcm).mono fun e W' ⟨he, hb⟩ => ?_
  subst he
  refine ⟨_, rfl, post_of_below (pa := p0 ++ p1) (pv := []) hW' (fun _ _ _ => trodAll_mk1 (shut_bool Try.underlying4 _)) (fun sp hsp => trodAll_mk2 (trod_below (by kernel_rfl) (of_decide_eq_true (by kernel_rfl)) h0 hb (fun y hy => hlt0 y (List.mem_append_left _ hy)) (fun y hy => hsp y (List.mem_append_left _ hy))) (trod_below (by kernel_rfl) (of_decide_eq_true (by kernel_rfl)) h1 hb (fun y hy => hlt0 y (List.mem_append_right _ hy)) (fun y hy => hsp y (List.mem_append_right _ hy)))) (fun _ _ => rfl) (by simp) hb (ok_one (by kernel_rfl) rfl (okWide_bool_mk Try.underlying4 _))⟩
theorem lookupPlays_holds : Rows.LookupPlaysSaid :=
  OpenClaim.holds_of_wide 4 Try.f4 rfl rfl rfl rfl rfl rfl rfl ⟨rfl, rfl, rfl, rfl, rfl⟩ rfl rfl rfl rfl rfl (by kernel_rfl) Try.func4 (by kernel_rfl)
    (of_decide_eq_true (by kernel_rfl)) (by unfold Func.isWrapper; first | (rw [if_pos (by decide +kernel)]; kernel_rfl) | (rw [if_neg (by decide +kernel)]; exact ⟨rfl, rfl⟩))
    (fun os started H enc _ => plays_lifted os started H enc)
#print axioms lookupPlays_holds
end Go.Proofs.Ytgigihlmpdpggaa
