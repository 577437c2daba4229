/-
  Of any two items that are unlike just one stands ahead, of like ones none; and of three, two of which stand in order, so does the third. Conditions: none.
-/
import Derived.Test.YtfibmpacakjodaaRows
import Derived.Test.YtfibmpacakjodaaLkX
import Derived.Below
import Derived.ChangeSame
import Derived.ProofKit
namespace Go.Proofs.Ytfibmpacakjodaa
open Go.ChangeShapes Go.WideShapes Go.ChangeAt Go.RowKit
theorem ownKnob_none : ownKnob Try.prog.godebug = none := by kernel_rfl
section
variable {H : Type} {enc : TypeId × Value → H} {P : Program}
theorem post_of_below {f : Func} {s : ChangeSpec} {apart fresh handsOn again : Bool} {W W' : World} {args : Array Value} {v : Value} {ds gs : List (DataW H)} {before pa pv : List MemPlace}
    (hW : DataW.Whole enc P f.params.toList s.vars apart W args.toList ds gs before)
    (hres : ∀ (b : Nat) (sp : Nat → Bool) (hd : Bool), DataW.TrodAll enc P W' b sp hd f.resultTypes.toList (v.resultList f.resultTypes.size) (s.fn H (ds ++ gs)).results [])
    (hargs : ∀ sp : Nat → Bool, (∀ p ∈ before, sp p.block = true) → DataW.TrodAll enc P W' 0 sp true f.params.toList args.toList (s.fn H (ds ++ gs)).args pa)
    (hvars : ∀ sp : Nat → Bool, (∀ p ∈ before, sp p.block = true) → DataW.TrodVars enc P W' sp s.vars (s.fn H (ds ++ gs)).vars pv)
    (hps : before = pa ++ pv) (hb : Below W.heap.size W W')
    (hok : ∀ (j : Nat) (t : TypeId) (r : Value), f.resultTypes[j]? = some t → (v.resultList f.resultTypes.size)[j]? = some r → Value.okWide P W' .any 0 t r) :
    s.post enc P f apart fresh handsOn again W args v W' := by
  have hlt : ∀ p ∈ before, p.block < W.heap.size := fun p hp => hW.lt p hp
  have hold : ∀ p ∈ before, (fun b => decide (b < W.heap.size)) p.block = true := fun p hp => by simpa using hlt p hp
  refine ⟨ds, gs, before, [], pa, pv, hW, hres _ _ _, hargs _ hold, hvars _ hold, World.keptBut_mono (fun p hp => ⟨hp, ?_⟩) (hb.frame (· ∈ before)), fun _ => ?_⟩
  · rw [hps, List.mem_append] at hp
    exact Or.inr hp
  · obtain ⟨_, _, _, _, _, hz, hn⟩ := hW
    refine ⟨hok, _, _, ([] ++ pa) ++ pv, ⟨[] ++ pa, pv, trodAll_append (hargs _ (fun _ _ => rfl)) (hres _ _ _), hvars _ (fun _ _ => rfl), rfl, ?_, ?_⟩, ?_⟩
    · intro b off hp
      have hin : MemPlace.cell b off ∈ before := by rw [hps]; simpa using hp
      rw [hb.frozen (hlt _ hin)]
      exact hz b off hin
    · intro ha
      have := hn ha
      rw [hps] at this
      simpa using this
    · intro p hp _
      rw [hps]
      simpa using hp
/-- What an item reads as. -/
def It.dat (x : It) : DataW H := .agg [.lit (.string x.id.data.toList), .agg [.lit (.string x.pack.data.toList), .lit (.int .i64 x.kind), .lit (.int .i64 x.off), .lit (.int .i64 x.long), .lit (.int .i64 x.size)]]
structure It.Fits (x : It) : Prop where
  id : x.id.size ≤ maxLen
  pack : x.pack.size ≤ maxLen
  kind : (Lit.int .i64 x.kind).wf = true
  off : (Lit.int .i64 x.off).wf = true
  long : (Lit.int .i64 x.long).wf = true
  size : (Lit.int .i64 x.size).wf = true
theorem item_cells : Try.prog.cellsOf 25 = 6 ∧ Try.prog.cellsOf 23 = 5 ∧ Try.prog.cellsOf 9 = 1 ∧ Try.prog.cellsOf 3 = 1 := ⟨by kernel_rfl, by kernel_rfl, by kernel_rfl, by kernel_rfl⟩
set_option maxRecDepth 100000 in
theorem open_item {W : World} {base : Nat} {spare : Nat → Bool} {held : Bool} {r : Reach} {b0 : Nat} {v : Value} {d : DataW H} {p : List MemPlace} (hv : Value.okWide Try.prog W r b0 25 v) (h : DataW.Trod enc Try.prog W base spare held 25 v d p) :
    ∃ x : It, v = x.val ∧ d = x.dat ∧ p = [] ∧ x.Fits := by
  obtain ⟨c6, c5, c1, ci⟩ := item_cells
  obtain ⟨cs, rfl, hsz⟩ := okWide_struct Try.underlying25 hv
  obtain ⟨l⟩ := cs
  match l, hsz.trans c6 with
  | [a0, a1, a2, a3, a4, a5], _ =>
    obtain ⟨fuel, hf⟩ := h
    obtain ⟨xs, n, _, hx, _, hlen, hg⟩ := DataW.trod_struct Try.underlying25 hf
    match xs, hlen with
    | [y0, y1], _ =>
      have g0 := hg 0 _ rfl
      have g1 := hg 1 _ rfl
      simp only [Value.cells] at g0 g1
      obtain ⟨s0, e0, rfl, w0⟩ := DataW.trod_string Try.underlying9 (x := y0) (by simpa [c1, c5] using g0)
      obtain ⟨zs, m, _, hz, _, hlen2, hk⟩ := DataW.trod_struct Try.underlying23 (x := y1) (by simpa [c1, c5] using g1)
      match zs, hlen2 with
      | [z0, z1, z2, z3, z4], _ =>
        have k0 := hk 0 _ rfl
        have k1 := hk 1 _ rfl
        have k2 := hk 2 _ rfl
        have k3 := hk 3 _ rfl
        have k4 := hk 4 _ rfl
        obtain ⟨s1, f0, rfl, w1⟩ := DataW.trod_string Try.underlying9 (x := z0) (by simpa [c1, ci] using k0)
        obtain ⟨n1, f1, rfl, w2⟩ := DataW.trod_int Try.underlying3 (x := z1) (by simpa [c1, ci] using k1)
        obtain ⟨n2, f2, rfl, w3⟩ := DataW.trod_int Try.underlying3 (x := z2) (by simpa [c1, ci] using k2)
        obtain ⟨n3, f3, rfl, w4⟩ := DataW.trod_int Try.underlying3 (x := z3) (by simpa [c1, ci] using k3)
        obtain ⟨n4, f4, rfl, w5⟩ := DataW.trod_int Try.underlying3 (x := z4) (by simpa [c1, ci] using k4)
        simp only [List.cons.injEq, and_true] at e0 f0 f1 f2 f3 f4
        subst e0 f0 f1 f2 f3 f4
        simp only [List.map_cons, List.map_nil, List.flatMap_cons, List.flatMap_nil, Prod.mk.injEq] at hx hz
        obtain ⟨rfl⟩ := hz
        obtain ⟨rfl, rfl⟩ := hx
        exact ⟨⟨s0, s1, n1, n2, n3, n4⟩, rfl, rfl, rfl, w0, w1, w2, w3, w4, w5⟩
theorem shut_item {W : World} {base : Nat} {spare : Nat → Bool} {held : Bool} (x : It) (hx : x.Fits) : DataW.Trod enc Try.prog W base spare held 25 x.val x.dat [] := by
  obtain ⟨c6, c5, c1, ci⟩ := item_cells
  obtain ⟨w0, w1, w2, w3, w4, w5⟩ := hx
  refine ⟨3, ?_⟩
  simp [DataW.trod, Try.underlying25, Try.underlying23, Try.underlying9, Try.underlying3, c6, c5, c1, ci, It.dat, Value.cells, w0, w1, w2, w3, w4, w5]
end
set_option maxRecDepth 100000 in
theorem one_lifted (os : Os) (started : os.Started) (H : Type) (enc : TypeId × Value → H) :
    ReturnsInHanded {} Try.checked os 3 .any (Rows.lookupOneSpec.pre6 enc Try.prog Try.f3 Rows.lookupOneRow.domain false) (Rows.lookupOneSpec.post enc Try.prog Try.f3 false true false false) := by
  refine returnsInHanded_of_change (C := Try.checked) ownKnob_none started (by kernel_rfl) Try.func3
    (ChangeSpec.witness6 (enc := enc) (C := Try.checked) false ⟨#[], #[.agg #[.string ByteArray.empty, .string ByteArray.empty, .int .i64 0, .int .i64 0, .int .i64 0, .int .i64 0], .agg #[.string ByteArray.empty, .string ByteArray.empty, .int .i64 0, .int .i64 0, .int .i64 0, .int .i64 0], .agg #[.string ByteArray.empty, .string ByteArray.empty, .int .i64 0, .int .i64 0, .int .i64 0, .int .i64 0]], []⟩ 8 (by kernel_rfl) (by kernel_rfl) (by kernel_rfl) (by kernel_rfl)) ?_
  intro W base args ds gs before hval0 hW hcnd _
  have hval : ∀ (j : Nat) t v, Try.f3.params[j]? = some t → args[j]? = some v → Value.okWide Try.prog W .any base t v := hval0
  have hW' := hW
  obtain ⟨p, q, hA0, hV, rfl, hfz, hnd⟩ := hW
  have hA : DataW.TrodAll enc Try.prog W 0 (fun _ => true) true Try.f3.params.toList args.toList ds p := hA0
  rw [Try.params3] at hA hval
  obtain ⟨v0, v1, v2, d0, d1, d2, p0, p1, p2, rfl, rfl, rfl, h0, h1, h2⟩ := trodAll_three hA
  obtain ⟨rfl, rfl⟩ := trodVars_none hV
  obtain ⟨x, rfl, rfl, rfl, wx⟩ := open_item (hval 0 25 v0 rfl rfl) h0
  obtain ⟨y, rfl, rfl, rfl, wy⟩ := open_item (hval 1 25 v1 rfl rfl) h1
  obtain ⟨z, rfl, rfl, rfl, wz⟩ := open_item (hval 2 25 v2 rfl rfl) h2
  clear hA0 hval0
  simp only [List.append_nil] at hW'
  refine (one_walk x y z W).mono fun e W' ⟨he, hb⟩ => ?_
  subst he
  exact ⟨_, rfl, post_of_below (pa := []) (pv := []) hW' (fun _ _ _ => trodAll_mk1 (shut_bool Try.underlying4 _)) (fun sp _ => trodAll_mk3 (shut_item x wx) (shut_item y wy) (shut_item z wz)) (fun _ _ => rfl) rfl hb (ok_one (by kernel_rfl) rfl (okWide_bool_mk Try.underlying4 _))⟩
theorem lookupOne_holds : Rows.LookupOneSaid :=
  OpenClaim.holds_of_wide 3 Try.f3 rfl rfl rfl rfl rfl rfl rfl ⟨rfl, rfl, rfl, rfl, rfl⟩ rfl rfl rfl rfl rfl (by kernel_rfl) Try.func3 (by kernel_rfl)
    (of_decide_eq_true (by kernel_rfl)) (by unfold Func.isWrapper; first | (rw [if_pos (by decide +kernel)]; kernel_rfl) | (rw [if_neg (by decide +kernel)]; exact ⟨rfl, rfl⟩))
    (fun os started H enc _ => one_lifted os started H enc)
#print axioms lookupOne_holds
end Go.Proofs.Ytfibmpacakjodaa
