/-
  A table to which items are added, turned about, and some of them twice, is the same; each is found, by the least of its places; and once all packs are dropped nothing is. Conditions: none.
-/
import Derived.Test.YtgigihlmpdpggaaRows
import Derived.Test.YtgigihlmpdpggaaLift
import Derived.Test.YtgigihlmpdpggaaPn
import Derived.Laws.IdiomArrays
namespace Go.Proofs.Ytgigihlmpdpggaa
open Go.ChangeShapes Go.WideShapes Go.ChangeAt Go.RowKit
section
variable {H : Type} {enc : TypeId × Value → H}
theorem trip_cells : Try.prog.cellsOf 26 = 3 ∧ Try.prog.cellsOf 3 = 1 := ⟨by kernel_rfl, by kernel_rfl⟩
set_option maxRecDepth 100000 in
theorem open_trips {W : World} {r : Reach} {b0 : Nat} {v : Value} {d : DataW H} {p : List MemPlace} (hv : Value.okWide Try.prog W r b0 22 v) (h : DataW.Trod enc Try.prog W 0 (fun _ => true) true 22 v d p) :
    ∃ (A : Option Addr) (zs : List (Int × Int × Int)) (c : Nat), v = .slice A zs.length c ∧ Trips W A zs ∧ zs.length ≤ c ∧ c ≤ maxLen := by
  obtain ⟨c3, c1⟩ := trip_cells
  obtain ⟨a0, len, cap, rfl⟩ := okWide_slice Try.underlying22 hv
  obtain ⟨fuel, hf⟩ := h
  rcases Deep.open_slice Try.underlying22 hf with ⟨hcs, _⟩ | ⟨a, len', cap', m, n, D, Pl, hcs, _, hl, hm, hmm, hx, hel⟩
  · simp only [Value.cells, List.cons.injEq, and_true] at hcs
    injection hcs with e1 e2 e3
    subst e1 e2 e3
    exact ⟨none, [], 0, rfl, .inl rfl, Nat.le_refl _, Nat.zero_le _⟩
  · simp only [Value.cells, List.cons.injEq, and_true] at hcs
    injection hcs with e1 e2 e3
    subst e1 e2 e3
    rw [if_pos rfl] at hmm
    subst hmm
    rw [c3] at hel hx
    have hg : ∀ i, i < len → ∃ t : Int × Int × Int, W.cell? (a.add (i * 3)) = some (.int .i64 t.1) ∧ W.cell? ((a.add (i * 3)).add 1) = some (.int .i64 t.2.1) ∧ W.cell? ((a.add (i * 3)).add 2) = some (.int .i64 t.2.2) := by
      intro i hi
      obtain ⟨cs', h1, h2⟩ := hel i (by omega)
      obtain ⟨_, hlen, hc⟩ := World.cells?_some h1
      match cs', hlen with
      | [v0, v1, v2], _ =>
        obtain ⟨y0, y1, y2, k, _, t0, t1, t2⟩ := trod_array3 Try.underlying26 c1 h2
        obtain ⟨n0, f0, _⟩ := DataW.trod_int Try.underlying3 t0
        obtain ⟨n1, f1, _⟩ := DataW.trod_int Try.underlying3 t1
        obtain ⟨n2, f2, _⟩ := DataW.trod_int Try.underlying3 t2
        simp only [List.cons.injEq, and_true] at f0 f1 f2
        subst f0 f1 f2
        have h0 := hc 0 (by omega)
        exact ⟨(n0, n1, n2), by simpa [Addr.add] using h0, hc 1 (by omega), hc 2 (by omega)⟩
    obtain ⟨f, hf2⟩ := Deep.choose_lt hg
    refine ⟨some a, (List.range len).map f, _, by rw [List.length_map, List.length_range], ?_, by simpa using hl, hm⟩
    rcases Nat.eq_zero_or_pos len with h0 | h0
    · subst h0; exact .inl rfl
    · obtain ⟨b, off, spot⟩ := a
      have hspot : spot = none := by simpa [Addr.add] using World.cell?_spot (hf2 0 h0).1
      subst hspot
      refine .inr ⟨b, off, rfl, World.block_lt_of_cell? W _ (hf2 0 h0).1, fun i t ht => ?_⟩
      have hi : i < len := by have := (List.getElem?_eq_some_iff.1 ht).1; simpa using this
      have he : t = f i := by simp [hi] at ht; exact ht.symm
      subst he
      obtain ⟨q0, q1, q2⟩ := hf2 i hi
      rw [Go.WideShapes.add_plain] at q0 q1 q2
      rw [Go.WideShapes.add_plain] at q1 q2
      exact ⟨q0, q1, q2⟩
end
set_option maxRecDepth 100000 in
theorem same_lifted (os : Os) (started : os.Started) (H : Type) (enc : TypeId × Value → H) :
    ReturnsInHanded {} Try.checked os 3 .any (Rows.lookupSameSpec.pre6 enc Try.prog Try.f3 Rows.lookupSameRow.domain false) (Rows.lookupSameSpec.post enc Try.prog Try.f3 false true false false) := by
  refine returnsInHanded_of_change (C := Try.checked) ownKnob_none started (by kernel_rfl) Try.func3
    (ChangeSpec.witness6 (enc := enc) (C := Try.checked) false ⟨#[], #[.slice none 0 0], []⟩ 8 (by kernel_rfl) (by kernel_rfl) (by kernel_rfl) (by kernel_rfl)) ?_
  intro W base args ds gs before hval0 hW hcnd _
  have hval : ∀ (j : Nat) t v, Try.f3.params[j]? = some t → args[j]? = some v → Value.okWide Try.prog W .any base t v := hval0
  have hW' := hW
  have hlt0 : ∀ p ∈ before, p.block < W.heap.size := fun p hp => hW.lt p hp
  obtain ⟨p, q, hA0, hV, rfl, hfz, hnd⟩ := hW
  have hA : DataW.TrodAll enc Try.prog W 0 (fun _ => true) true Try.f3.params.toList args.toList ds p := hA0
  rw [Try.params3] at hA hval
  obtain ⟨v0, d0, rfl, rfl, h0⟩ := trodAll_one hA
  obtain ⟨rfl, rfl⟩ := trodVars_none hV
  simp only [List.append_nil] at hW' hlt0
  obtain ⟨A, zs, c, rfl, hz, hc, hcm⟩ := open_trips (hval 0 22 v0 rfl rfl) h0
  clear hA0 hval0
  refine (same_walk A c zs W hz hc hcm).mono fun e W' ⟨he, hb⟩ => ?_
  subst he
  refine ⟨_, rfl, post_of_below (pa := p) (pv := []) hW' (fun _ _ _ => trodAll_mk1 (shut_bool Try.underlying4 _)) (fun sp hsp => trodAll_mk1 (trod_below (by kernel_rfl) (of_decide_eq_true (by kernel_rfl)) h0 hb hlt0 hsp)) (fun _ _ => rfl) (by simp) hb (ok_one (by kernel_rfl) rfl (okWide_bool_mk Try.underlying4 _))⟩
theorem lookupSame_holds : Rows.LookupSameSaid :=
  OpenClaim.holds_of_wide 3 Try.f3 rfl rfl rfl rfl rfl rfl rfl ⟨rfl, rfl, rfl, rfl, rfl⟩ rfl rfl rfl rfl rfl (by kernel_rfl) Try.func3 (by kernel_rfl)
    (of_decide_eq_true (by kernel_rfl)) (by unfold Func.isWrapper; first | (rw [if_pos (by decide +kernel)]; kernel_rfl) | (rw [if_neg (by decide +kernel)]; exact ⟨rfl, rfl⟩))
    (fun os started H enc _ => same_lifted os started H enc)
#print axioms lookupSame_holds
end Go.Proofs.Ytgigihlmpdpggaa
