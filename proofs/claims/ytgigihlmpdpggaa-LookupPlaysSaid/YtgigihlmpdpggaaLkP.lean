import Derived.Test.YtgigihlmpdpggaaLkN
import Derived.Deep.RegionWith
import Derived.Deep.WholeRow
namespace Go.Proofs.Ytgigihlmpdpggaa
open Go.RowKit
theorem arr_info : (Try.prog.info? 55).map (·.size) = some 256 := by kernel_rfl
theorem load_arr (w : World) (b : Nat) (V : List Value) (hV : V.length = 256) (hg : w.heap[b]? = some (.cells V.toArray 57 (0, 0))) :
    (loadVar 55 ⟨b, 0, none⟩).run Try.prog w = .ok (.agg V.toArray) w :=
  run_loadVar_row w b _ 55 V.toArray (0, 0) _ hg Try.underlying55 rfl (by rw [arr_info]; simp [hV])
theorem index_arr (V : List Value) (k : Nat) (v : Value) (w : World) (hi : V.toArray[k]? = some v) (hs : V.toArray.size = 256) :
    (Instr.index 55 (.agg V.toArray) (.int .i64 k)).run Try.prog w = .ok v w := by
  have hk : k < 256 := by rw [← hs]; exact (Array.getElem?_eq_some_iff.1 hi).1
  have hc : (0 : Int) ≤ (k : Int) ∧ (k : Int) < 256 := ⟨by omega, by omega⟩
  simp [Instr.index, run_underlying Try.underlying55, asIntOf, Result.andThen, hk, part]
  have hi' : V[k]? = some v := by simpa using hi
  rw [hi']
  rfl
section
variable {P : Program}
theorem wp_load_run (w : World) {o : Oper} {a : Act} {K : Act → World → Prop} {Q : Exit → Act → World → Prop} (x : Operand) (t : TypeId)
    (ho : o.op = .load t x) (p : Addr) (hx : a.eval x = .pointer (some p)) (v : Value) (hr : (loadVar t p).run P w = .ok v w) (h : K (a.put o.dst v) w) : o.wp P a w K Q := by
  unfold Oper.wp execOp
  simp only [ho, hx, Instr.loadAt, Instr.sureAddr, Sem.run_bind, Sem.run_pure, Result.andThen_ok, hr]
  exact h
theorem wpList_load_run (w : World) {ops : Array Oper} {rest : List Oper} {o : Oper} {a : Act} {Q : Exit → Act → World → Prop} (hgd : o.guard = none) (x : Operand) (t : TypeId)
    (ho : o.op = .load t x) (p : Addr) (hx : a.eval x = .pointer (some p)) (v : Value) (hr : (loadVar t p).run P w = .ok v w) (h : wpList P ops Q rest (a.put o.dst v) w) : wpList P ops Q (o :: rest) a w :=
  wpList_plain hgd fun _ hK => wp_load_run w x t ho p hx v hr (hK _ _ h)
end
/-- What has gone of the first k lists. -/
def dropTo (p : ByteArray) (k : Nat) (L : List (List It)) : List (List It) := (L.take k).map (·.filter (keeps p)) ++ L.drop k
def gone (p : ByteArray) (xs : List It) : Nat := xs.length - (xs.filter (keeps p)).length
def goneTo (p : ByteArray) (k : Nat) (L : List (List It)) : Nat := ((L.take k).map (gone p)).sum
theorem dropTo_get (p : ByteArray) (k : Nat) (L : List (List It)) (hk : k < L.length) : (dropTo p k L)[k]? = L[k]? := by
  unfold dropTo
  rw [List.getElem?_append_right (by simp; omega)]
  simp
  rw [show min k L.length = k by omega]
  simp
theorem dropTo_set (p : ByteArray) (k : Nat) (L : List (List It)) (xs : List It) (hx : L[k]? = some xs) : (dropTo p k L).set k (xs.filter (keeps p)) = dropTo p (k + 1) L := by
  have hk : k < L.length := (List.getElem?_eq_some_iff.1 hx).1
  unfold dropTo
  rw [List.set_append_right _ _ (by simp; omega), List.take_add_one, hx]
  have hd : L.drop k = xs :: L.drop (k + 1) := by
    rw [List.drop_eq_getElem_cons hk]
    rw [List.getElem?_eq_getElem hk] at hx
    congr 1
    simpa using hx
  rw [hd]
  simp
  rw [show min k L.length = k by omega]
  simp
theorem goneTo_succ (p : ByteArray) (k : Nat) (L : List (List It)) (xs : List It) (hx : L[k]? = some xs) : goneTo p (k + 1) L = goneTo p k L + gone p xs := by
  unfold goneTo
  rw [List.take_add_one, hx]
  simp
theorem gone_le (p : ByteArray) (k : Nat) (L : List (List It)) (h : ∀ xs ∈ L, xs.length ≤ 65536) : goneTo p k L ≤ k * 65536 := by
  induction k with
  | zero => simp [goneTo]
  | succ k ih =>
    cases hx : L[k]? with
    | none =>
      have : goneTo p (k + 1) L = goneTo p k L := by unfold goneTo; rw [List.take_add_one, hx]; simp
      omega
    | some xs =>
      rw [goneTo_succ p k L xs hx]
      have := h xs (List.mem_of_getElem? hx)
      unfold gone
      omega
/-- What 'Drop' comes to. -/
def Dropped (w : World) (b : Nat) (V : List Value) (L : List (List It)) (p : ByteArray) (e : Ending) (w' : World) : Prop :=
  ∃ V', e = .returned (.int .i64 (goneTo p 256 L)) ∧ Tab w' b V' (L.map (·.filter (keeps p))) ∧ But (Own b V) w w' ∧ ∀ g, Own b V' g → Own b V g ∨ w.heap.size ≤ g
/-- A row that was turned, and the table with it. -/
structure Turned (w : World) (b k : Nat) (V : List Value) (L : List (List It)) (v : Value) (ys : List It) (v' : Value) (w4 : World) : Prop where
  cell : w4.cell? ⟨b, k, none⟩ = some v
  fro : w4.frozen? ⟨b, k, none⟩ = false
  tab : Tab (w4.setCell ⟨b, k, none⟩ v') b (V.set k v') (L.set k ys)
  but : But (Own b V) w (w4.setCell ⟨b, k, none⟩ v')
  new : ∀ g, Own b (V.set k v') g → Own b V g ∨ w.heap.size ≤ g
  far : ∀ q u, q < w.heap.size → ¬ Own b V q → w.cell? ⟨q, 0, none⟩ = some u → (w4.setCell ⟨b, k, none⟩ v').cell? ⟨q, 0, none⟩ = some u
theorem turned {w w4 : World} {b k : Nat} {V : List Value} {L : List (List It)} {v : Value} {xs ys : List It} {e : Ending} (h : Tab w b V L) (hv : V[k]? = some v) (hx : L[k]? = some xs) (h4 : Inserted w v ys e w4) :
    ∃ A n c, e = .returned (.slice A n c) ∧ (w4.setCell ⟨b, k, none⟩ (.slice A n c)).cell? ⟨b, k, none⟩ = some (.slice A n c) ∧ n = ys.length ∧ Turned w b k V L v ys (.slice A n c) w4 := by
  obtain ⟨v', rfl, hrow, hg, hat⟩ := h4
  obtain ⟨A, n, c, rfl, hn⟩ : ∃ A n c, v' = Value.slice A n c ∧ n = ys.length := by
    rcases hrow.2 with ⟨rfl, h⟩ | ⟨_, _, _, rfl, _⟩
    · exact ⟨_, _, _, rfl, h.symm⟩
    · exact ⟨_, _, _, rfl, rfl⟩
  have hgb : v.ownBlock ≠ some b := row_ne (h.row k v xs hv hx) h.blk
  have hbk : w4.heap[b]? = w.heap[b]? := hg.block b h.lt (Ne.symm hgb)
  have hc : w4.cell? ⟨b, k, none⟩ = some v := (World.cell?_of_block (a := ⟨b, k, none⟩) hbk).trans (h.cell hv)
  obtain ⟨t1, t2⟩ := h.set_ hv hx hrow hg hat
  refine ⟨A, n, c, rfl, World.cell?_setCell_same' _ _ _ (by rw [hc]; rfl), hn, hc, (World.frozen?_of_block (a := ⟨b, k, none⟩) hbk).trans (h.frozen k), t1, t2, ?_, ?_⟩
  · rintro g (rfl | ⟨i, u, hu, hgu⟩)
    · exact .inl (.inl rfl)
    · rw [List.getElem?_set] at hu
      by_cases hki : k = i
      · subst hki
        rw [if_pos rfl] at hu
        split at hu <;> cases hu
        rcases hat with e | ⟨m, hm, hm2⟩
        · exact .inl (.inr ⟨k, v, hv, by rw [← e]; exact hgu⟩)
        · rw [hm] at hgu; cases hgu; exact .inr hm2
      · rw [if_neg hki] at hu
        exact .inl (.inr ⟨i, u, hu, hgu⟩)
  · intro q u hq ho hqu
    rw [World.cell?_of_block (a := ⟨q, 0, none⟩) (t2.block q hq ho)]
    exact hqu
set_option maxHeartbeats 1000000 in
set_option maxRecDepth 100000 in
theorem drop_any (b : Nat) (V : List Value) (L : List (List It)) (p : ByteArray) (w : World) (ht : Tab w b V L) (hlen : ∀ xs ∈ L, xs.length ≤ 65536) :
    Calls Try.prog 15 #[.pointer (some ⟨b, 0, none⟩), .string p] w (Dropped w b V L p) := by
  have HT := Lib.hid ht
  have HL := Lib.hid hlen
  have hld : (loadVar 55 ⟨b, 0, none⟩).run Try.prog (w.alloc (.cells #[.string p] 9)) = .ok (.agg V.toArray) (w.alloc (.cells #[.string p] 9)) := by
    refine load_arr _ b V ht.lenV ?_
    rw [Below.heap_alloc w _ b ht.lt]
    exact ht.blk
  clear ht hlen
  go_enter Try.func15, Try.ntmps15
  go_wp2_with (refine wpList_load_run _ rfl (.tmp 10) 55 rfl _ rfl _ hld ?_)
  clear hld
  go_loopw [5, 12] (fun a i wr => ∃ (k : Nat) (V' : List Value), i = .int .i64 k ∧ a = .int .i64 (goneTo p k L) ∧ k ≤ 256 ∧ Tab wr b V' (dropTo p k L) ∧ V'.drop k = V.drop k ∧ But (Own b V) w wr ∧ (∀ g, Own b V' g → Own b V g ∨ w.heap.size + 1 ≤ g) ∧ wr.cell? ⟨w.heap.size, 0, none⟩ = some (.string p)) (fun _ i _ => 256 - (intOf i).toNat)
  case atStart =>
    refine ⟨0, V, rfl, rfl, by omega, ?_, rfl, But.of_below ((Below.refl _ _).alloc (Nat.le_refl _) _), fun g hg => .inl hg, ?_⟩
    · simpa [dropTo] using HT.out.but (S := fun _ => False) (But.of_below ((Below.refl _ _).alloc (Nat.le_refl _) _)) (fun _ _ h => h)
    · rw [World.cell?_alloc_at _ _ _ _ rfl]; rfl
  case round =>
    obtain ⟨k, V', rfl, rfl, hk, ht', hdr, hbut, hown, hq⟩ := hrel
    have hgl := gone_le p k L HL.out
    by_cases hk2 : k < 256
    · obtain ⟨v, hv⟩ : ∃ v, V'[k]? = some v := ⟨_, List.getElem?_eq_getElem (by rw [ht'.lenV]; exact hk2)⟩
      have hv0 : V[k]? = some v := by
        have h1 := congrArg (fun l => l[0]?) hdr
        simp only [List.getElem?_drop, Nat.add_zero] at h1
        rw [← h1, hv]
      obtain ⟨xs, hx⟩ : ∃ xs, L[k]? = some xs := ⟨_, List.getElem?_eq_getElem (by rw [HT.out.lenL]; exact hk2)⟩
      have hx' : (dropTo p k L)[k]? = some xs := (dropTo_get p k L (by rw [HT.out.lenL]; exact hk2)).trans hx
      have hrow := ht'.row k v xs hv hx'
      have hxl : xs.length ≤ 65536 := HL.out xs (List.mem_of_getElem? hx)
      obtain ⟨A0, c0, rfl⟩ : ∃ A c, v = Value.slice A xs.length c := by
        rcases hrow.2 with ⟨rfl, h⟩ | ⟨_, _, _, rfl, _⟩
        · exact ⟨_, _, by rw [h]⟩
        · exact ⟨_, _, rfl⟩
      have hcell := ht'.cell hv
      have hidx : V.toArray[k]? = some (Value.slice A0 xs.length c0) := by simpa using hv0
      have hVs : V.toArray.size = 256 := by simpa using HT.out.lenV
      have hix := index_arr V k _ wr hidx hVs
      clear hidx hVs
      have hq' : ∀ W, Below wr.heap.size wr W → W.cell? ⟨w.heap.size, 0, none⟩ = some (.string p) := fun W hW => (hW.cell (p := ⟨w.heap.size, 0, none⟩) (lt_of_cell hq)).trans hq
      have hqo : (Value.slice A0 xs.length c0).ownBlock ≠ some w.heap.size := fun e => by
        rcases hown w.heap.size (.inr ⟨k, _, hv, e⟩) with h | h
        · have := HT.out.own_lt h; omega
        · omega
      have HDEL := fun W (hW : Below wr.heap.size wr W) => Lib.hid (delete_any (Value.slice A0 xs.length c0) w.heap.size xs p W hxl (row_block hrow fun g hg => hW.block g (row_lt hrow hg)) (hq' W hW) hqo)
      have HT' := Lib.hid ht'
      have HROW := Lib.hid hrow
      have HBUT := Lib.hid hbut
      have HOWN := Lib.hid hown
      have HX := Lib.hid hx
      have HX' := Lib.hid hx'
      have HV := Lib.hid hv
      have HDR := Lib.hid hdr
      have HQ := Lib.hid hq
      clear ht' hrow hbut hown hx hx' hv hdr hq hq' hqo hcell hv0
      have HTD : Hid (Tab wr.drew b V' (dropTo p k L)) := HT'.out.but (S := fun _ => False) (But.of_below (Below.refl _ _).drew) (fun _ _ h => h)
      go_wp2
      go_region_with (first | (go_at_call 32; refine Calls.mono (HDEL _ ?_).out ?_; exact (Below.refl _ _).drew; rintro e w4 h4; obtain ⟨A, _, c, rfl, hr4, rfl, ht4⟩ := turned HTD.out HV.out HX'.out h4; have hc4 := ht4.cell; have hf4 := ht4.fro; clear h4))
      rename_i w4 A c hr4 ht4 hc4 hf4
      have hfl : (xs.filter (keeps p)).length ≤ xs.length := List.length_filter_le _ _
      have HT4 := Lib.hid ht4
      clear ht4 hc4 hf4 HDEL
      go_wp2
      go_roundw
      case rel =>
        have hwr : w.heap.size + 1 ≤ wr.heap.size := lt_of_cell HQ.out
        refine ⟨k + 1, _, by go_num, ?_, by omega, by rw [← dropTo_set p k L xs HX.out]; exact HT4.out.tab, ?_, ?_, ?_, ?_⟩
        · rw [goneTo_succ p k L xs HX.out]
          congr 1
          unfold gone
          omega
        · rw [List.drop_set_of_lt (by omega)]
          have := congrArg (List.drop 1) HDR.out
          simpa [List.drop_drop] using this
        · exact HBUT.out.then_ ((But.of_below (Below.refl _ _).drew).trans HT4.out.but) fun i hi ho => by
            rcases HOWN.out i ho with h | h
            · exact h
            · omega
        · intro g hg
          rcases HT4.out.new g hg with h | h
          · exact HOWN.out g h
          · exact .inr (Nat.le_trans hwr h)
        · refine HT4.out.far _ _ (by show w.heap.size < wr.heap.size; omega) (fun ho => ?_) HQ.out
          rcases HOWN.out _ ho with h | h
          · have := HT.out.own_lt h; omega
          · omega
      case measure => simp [intOf]; omega
    · have hk256 : k = 256 := by omega
      subst hk256
      have HF : Hid (Dropped w b V L p (.returned (.int .i64 (goneTo p 256 L))) wr) := by
        refine ⟨V', rfl, ?_, hbut, fun g hg => (hown g hg).imp id (fun h => by omega)⟩
        have : dropTo p 256 L = L.map (·.filter (keeps p)) := by
          unfold dropTo
          rw [List.take_of_length_le (by rw [HT.out.lenL]; omega), List.drop_eq_nil_of_le (by rw [HT.out.lenL]; omega)]
          simp
        rw [← this]
        exact ht'
      clear ht' hbut hown hdr hq
      go_wp2
      go_ret
      exact HF.out
end Go.Proofs.Ytgigihlmpdpggaa
