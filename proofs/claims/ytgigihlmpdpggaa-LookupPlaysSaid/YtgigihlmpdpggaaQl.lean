import Derived.Test.YtgigihlmpdpggaaQk
namespace Go.Proofs.Ytgigihlmpdpggaa
open Go.RowKit
/-- A block of cells that may be written. -/
def BlockAt (w : World) (g : Nat) (t : TypeId) (N : Nat) : Prop := ∃ cur, w.heap[g]? = some (.cells cur t (0, 0)) ∧ N ≤ cur.size
theorem BlockAt.cell {w : World} {g N : Nat} {t : TypeId} (h : BlockAt w g t N) {j : Nat} (hj : j < N) : ∃ u, w.cell? ⟨g, j, none⟩ = some u := by
  obtain ⟨cur, h1, h2⟩ := h
  rw [cell_of_row w g j _ _ (0, 0) h1]
  exact ⟨_, Array.getElem?_eq_getElem (by omega)⟩
theorem BlockAt.frozen {w : World} {g N : Nat} {t : TypeId} (h : BlockAt w g t N) (j : Nat) : w.frozen? ⟨g, j, none⟩ = false := by
  obtain ⟨cur, h1, _⟩ := h
  simp [World.frozen?, h1]
theorem BlockAt.lt {w : World} {g N : Nat} {t : TypeId} (h : BlockAt w g t N) : g < w.heap.size := by
  obtain ⟨cur, h1, _⟩ := h
  exact (Array.getElem?_eq_some_iff.1 h1).1
theorem BlockAt.setCell {w : World} {g N : Nat} {t : TypeId} (h : BlockAt w g t N) (j : Nat) (u : Value) : BlockAt (w.setCell ⟨g, j, none⟩ u) g t N := by
  obtain ⟨cur, h1, h2⟩ := h
  exact ⟨cur.setIfInBounds j u, by simp [World.setCell, Array.getElem?_modify, h1], by simpa using h2⟩
theorem But.setCell {S : Nat → Prop} {w w' : World} (h : But S w w') {g : Nat} (hg : S g) (j : Nat) (u : Value) : But S w (w'.setCell ⟨g, j, none⟩ u) :=
  ⟨h.os, h.tape, h.output, by simpa [World.setCell] using h.size, fun k hk hs => by
    rw [Below.heap_setCell w' ⟨g, j, none⟩ u k (fun e => hs (by rw [e]; exact hg))]
    exact h.block k hk hs⟩
theorem BlockAt.drewN {w : World} {g N : Nat} {t : TypeId} (h : BlockAt w g t N) (q : Nat) : BlockAt (w.drewN q) g t N := h
/-- Whatever block could be written can be. -/
def Keeps (w w' : World) : Prop := ∀ g t N, BlockAt w g t N → BlockAt w' g t N
theorem Keeps.refl (w : World) : Keeps w w := fun _ _ _ h => h
theorem Keeps.trans {a b c : World} (h : Keeps a b) (k : Keeps b c) : Keeps a c := fun g t N x => k g t N (h g t N x)
theorem Keeps.below {w w' : World} (h : Below w.heap.size w w') : Keeps w w' := fun g t N hb => by
  obtain ⟨cur, h1, h2⟩ := hb
  exact ⟨cur, (h.block g (Array.getElem?_eq_some_iff.1 h1).1).trans h1, h2⟩
theorem Keeps.setCell (w : World) (g j : Nat) (u : Value) : Keeps w (w.setCell ⟨g, j, none⟩ u) := fun g' t N hb => by
  by_cases e : g = g'
  · subst e; exact hb.setCell j u
  · obtain ⟨cur, h1, h2⟩ := hb
    exact ⟨cur, (Below.heap_setCell w ⟨g, j, none⟩ u g' (fun h => e h.symm)).trans h1, h2⟩
set_option maxHeartbeats 1000000 in
set_option maxRecDepth 100000 in
theorem spoil_texts (A : Option Addr) (n c : Nat) (w : World) (hn : n ≤ 16777216) (hA : n = 0 ∨ ∃ g, A = some ⟨g, 0, none⟩ ∧ BlockAt w g 9 n) :
    Calls Try.prog 43 #[.slice A n c] w fun e w' => e = .returned (.tuple #[]) ∧ But (fun k => 0 < n ∧ A = some ⟨k, 0, none⟩) w w' ∧ Keeps w w' := by
  have HA := Lib.hid hA
  clear hA
  go_enter Try.func43, Try.ntmps43
  go_wp2
  go_loopw [2] (fun i wr => ∃ k : Nat, i = .int .i64 k ∧ k ≤ n ∧ But (fun k => 0 < n ∧ A = some ⟨k, 0, none⟩) w wr ∧ Keeps w wr) (fun i _ => n - (intOf i).toNat)
  case atStart => exact ⟨0, rfl, Nat.zero_le _, But.refl _ _, Keeps.refl _⟩
  case round =>
    obtain ⟨k, rfl, hk, hb, hbk⟩ := hrel
    by_cases hk2 : k < n
    · obtain ⟨g, rfl, hbg⟩ : ∃ g, A = some ⟨g, 0, none⟩ ∧ BlockAt wr g 9 n := by
        rcases HA.out with h | ⟨g', h1, h2⟩
        · omega
        · exact ⟨g', h1, hbk _ _ _ h2⟩
      obtain ⟨u, hu⟩ := hbg.cell hk2
      have hf := hbg.frozen k
      have HBG := Lib.hid hbk
      have HB := Lib.hid hb
      clear hbk hbg hb
      go_wp2
      go_roundw
      case rel => exact ⟨k + 1, by go_num, by omega, HB.out.setCell ⟨by omega, rfl⟩ _ _, HBG.out.trans (Keeps.setCell _ _ _ _)⟩
      case measure => simp [intOf]; omega
    · have HB := Lib.hid hb
      have HK := Lib.hid hbk
      clear hb hbk
      go_wp2
      go_end0
      exact ⟨rfl, HB.out, HK.out⟩
/-- What 'Clone' makes of a row: one like it, in a block of its own. -/
def Cloned (w : World) (xs : List It) (e : Ending) (w' : World) : Prop := ∃ A c, e = .returned (.slice A xs.length c) ∧ w'.ownsRow w.heap.size 32 6 (.slice A xs.length c) xs.length (flat xs) ∧ Below w.heap.size w w'
set_option maxHeartbeats 1000000 in
set_option maxRecDepth 100000 in
theorem clone_any (v : Value) (xs : List It) (w : World) (hn : xs.length ≤ 65536) (hv : Row w v xs) :
    Calls Try.prog 36 #[v] w (Cloned w xs) := by
  obtain ⟨cap, ⟨rfl, rfl⟩ | ⟨g, rfl, ho, hg, hcap, hm⟩⟩ := hv.form'
  · have HF : Hid (Cloned w [] (.returned (.slice none 0 0)) w) := ⟨none, 0, rfl, World.ownsRow_nil _ _ _ _, Below.refl _ _⟩
    clear hv
    have e1 := fun w' => Lib.run_eql_slice_nil (P := Try.prog) w' 35 32 none 0 0 0 0 Try.underlying35
    go_enter Try.func36, Try.ntmps36
    go_wp2
    go_ret
    exact HF.out
  · obtain ⟨n, hn2⟩ : ∃ n, xs.length = n := ⟨_, rfl⟩
    have e1 := fun w' => Lib.run_eql_slice_nil (P := Try.prog) w' 35 32 (some ⟨g, 0, none⟩) n cap 0 0 Try.underlying35
    have hown0 : (w.alloc (.cells #[] 32)).ownsRow w.heap.size 32 6 (.slice (some ⟨w.heap.size, 0, none⟩) 0 0) 0 [] := World.ownsRow_lit w #[] 0 (Nat.le_refl _) (Nat.zero_le _) rfl
    obtain ⟨o1, w1, hrun, hown1, hgr, _, _⟩ := append_items w.heap.size (w.alloc (.cells #[] 32)) _ 0 n cap [] (some ⟨g, 0, none⟩) xs hown0 (hv.items.below ((Below.refl _ _).alloc (Nat.le_refl _) _)) hn2 (by simp) (by omega)
    have hb1 : Below w.heap.size w w1 := ((Below.refl _ _).alloc (Nat.le_refl _) _).grown hgr (by simp) (fun k e => (hown0.lt k e).1)
    obtain ⟨A1, c1, rfl⟩ : ∃ A c, o1 = .slice A n c := by
      rcases hown1.2 with ⟨rfl, h0⟩ | ⟨_, _, _, rfl, _⟩
      · exact ⟨_, _, by rw [show n = 0 by omega]⟩
      · exact ⟨_, _, by rw [Nat.zero_add]⟩
    have HF : Hid (Cloned w xs (.returned (.slice A1 n c1)) w1) := by
      refine ⟨A1, c1, by rw [hn2], ?_, hb1⟩
      rw [hn2]
      simpa using hown1
    rw [hn2]
    have HN := Lib.hid hn2
    clear hv hown0 hown1 hgr hb1 ho hn2
    go_enter Try.func36, Try.ntmps36
    go_wp2_with (at_builtin; refine Lib.wpList_append_run _ rfl (.tmp 5) (.tmp 6) _ _ rfl _ _ rfl rfl _ _ hrun ?_)
    go_ret
    exact HF.out
/-- What 'Fork' has made of the first k lists. -/
def forkTo (k : Nat) (L : List (List It)) : List (List It) := L.take k ++ List.replicate (256 - k) []
theorem forkTo_get (k : Nat) (L : List (List It)) (hL : L.length = 256) (hk : k < 256) : (forkTo k L)[k]? = some [] := by
  unfold forkTo
  rw [List.getElem?_append_right (by simp; omega), List.getElem?_replicate]
  simp
  omega
theorem forkTo_set (k : Nat) (L : List (List It)) (xs : List It) (hL : L.length = 256) (hx : L[k]? = some xs) : (forkTo k L).set k xs = forkTo (k + 1) L := by
  have hk : k < 256 := by have := (List.getElem?_eq_some_iff.1 hx).1; omega
  unfold forkTo
  rw [List.set_append_right _ _ (by simp; omega), List.take_add_one, hx]
  obtain ⟨m, hm⟩ : ∃ m, 256 - k = m + 1 := ⟨255 - k, by omega⟩
  rw [hm, show 256 - (k + 1) = m by omega, List.replicate_succ, List.length_take, show min k L.length = k by omega]
  simp
/-- What 'Fork' comes to: a table of its own that has the same. -/
def Forked (w : World) (L : List (List It)) (e : Ending) (w' : World) : Prop := ∃ V', e = .returned (.pointer (some ⟨w.heap.size, 0, none⟩)) ∧ Tab w' w.heap.size V' L ∧ Below w.heap.size w w' ∧ ∀ g, Own w.heap.size V' g → w.heap.size ≤ g
theorem grownBy_of_below {w w1 : World} (h : Below w.heap.size w w1) (row : Option Nat) : w.grownBy w1 row := ⟨h.os, h.tape, h.output, h.size, fun k hk _ => h.block k hk⟩
theorem cloned_own {w w' : World} {A : Option Addr} {n c : Nat} {xs : List Value} (h : w'.ownsRow w.heap.size 32 6 (.slice A n c) n xs) : (Value.slice A n c).ownBlock = none ∨ ∃ k, (Value.slice A n c).ownBlock = some k ∧ w.heap.size ≤ k := by
  rcases h.2 with ⟨e, _⟩ | ⟨g, cap, cur, e, hg, _⟩
  · rw [e]; exact .inl rfl
  · rw [e]; exact .inr ⟨g, rfl, hg⟩
theorem row_any {w : World} {B : Nat} {v : Value} {xs : List It} (h : w.ownsRow B 32 6 v xs.length (flat xs)) : Row w v xs := by
  obtain ⟨h1, h2⟩ := h
  refine ⟨h1, h2.imp id ?_⟩
  rintro ⟨g, cap, cur, h3, h4, h5⟩
  exact ⟨g, cap, cur, h3, Nat.zero_le _, h5⟩
set_option maxHeartbeats 2000000 in
set_option maxRecDepth 100000 in
theorem fork_any (b : Nat) (V : List Value) (L : List (List It)) (w : World) (ht : Tab w b V L) (hlen : ∀ xs ∈ L, xs.length ≤ 65536) :
    Calls Try.prog 20 #[.pointer (some ⟨b, 0, none⟩)] w (Forked w L) := by
  have HT := Lib.hid ht
  have HL := Lib.hid hlen
  clear ht hlen
  go_enter Try.func20, Try.ntmps20
  go_wp2_with fail
  refine Calls.mono (new_any _) ?_
  rintro e w1 ⟨rfl, hw1⟩
  have hb1 : Below w.heap.size w w1 := by rw [hw1]; exact (Below.refl _ _).alloc (Nat.le_refl _) _
  have hblk : w1.heap[w.heap.size]? = some (.cells emptyCells 57 (0, 0)) := by rw [hw1]; exact heap_alloc_new w _
  have HN := Lib.hid (tab_new hblk)
  have HB1 := Lib.hid hb1
  have hld : (loadVar 55 ⟨b, 0, none⟩).run Try.prog w1 = .ok (.agg V.toArray) w1 :=
    load_arr w1 b V HT.out.lenV ((hb1.block b HT.out.lt).trans HT.out.blk)
  clear hw1 hb1 hblk
  go_wp2_with (refine wpList_load_run _ rfl (.tmp 9) 55 rfl _ rfl _ hld ?_)
  clear hld
  go_loopw [11] (fun i wr => ∃ (k : Nat) (V' : List Value), i = .int .i64 k ∧ k ≤ 256 ∧ Tab wr w.heap.size V' (forkTo k L) ∧ Below w.heap.size w wr ∧ (∀ g, Own w.heap.size V' g → w.heap.size ≤ g) ∧ V'.drop k = emptyV.drop k) (fun i _ => 256 - (intOf i).toNat)
  case atStart => exact ⟨0, emptyV, rfl, by omega, HN.out, HB1.out, fun g hg => by have := own_new hg; omega, rfl⟩
  case round =>
    obtain ⟨k, V', rfl, hk, ht', hb, hown, hdr⟩ := hrel
    by_cases hk2 : k < 256
    · obtain ⟨v, hv⟩ : ∃ v, V[k]? = some v := ⟨_, List.getElem?_eq_getElem (by rw [HT.out.lenV]; exact hk2)⟩
      obtain ⟨xs, hx⟩ : ∃ xs, L[k]? = some xs := ⟨_, List.getElem?_eq_getElem (by rw [HT.out.lenL]; exact hk2)⟩
      have hxl : xs.length ≤ 65536 := HL.out xs (List.mem_of_getElem? hx)
      have hrow : Row wr v xs := row_block (HT.out.row k v xs hv hx) fun g hg => hb.block g (row_lt (HT.out.row k v xs hv hx) hg)
      obtain ⟨A0, c0, rfl⟩ := hrow.lenV
      have hix := index_arr V k _ wr (by simpa using hv) (by simpa using HT.out.lenV)
      have hv' : V'[k]? = some (.slice none 0 0) := by
        have h1 := congrArg (fun l => l[0]?) hdr
        simp only [List.getElem?_drop, Nat.add_zero] at h1
        rw [h1, emptyV, List.getElem?_replicate, if_pos hk2]
      have hx' := forkTo_get k L HT.out.lenL hk2
      have HC := fun W hW => Lib.hid (clone_any (Value.slice A0 xs.length c0) xs W hxl hW)
      have HT2 := Lib.hid ht'
      have HB := Lib.hid hb
      have HOW := Lib.hid hown
      have HR := Lib.hid hrow
      have HX := Lib.hid hx
      have HX' := Lib.hid hx'
      have HV' := Lib.hid hv'
      have HDR := Lib.hid hdr
      have hbs := ht'.lt
      clear ht' hb hown hrow hx hx' hv' hdr hv
      go_wp2
      go_region_with (first | (go_at_call 36; refine Calls.mono (HC _ (HR.out.below (Below.refl _ _).drew)).out ?_; rintro e w4 ⟨A, c, rfl, hr4, hb4⟩; have ht4 := (HT2.out.but (S := fun _ => False) (But.of_below (Below.refl _ _).drew) (fun _ _ h => h)).set_ HV'.out HX'.out (row_any hr4) (grownBy_of_below hb4 _) (cloned_own hr4); have ht5 := HT2.out.but (S := fun _ => False) (But.of_below ((Below.refl _ _).drew.trans hb4)) (fun _ _ h => h); have hc4 := ht5.cell HV'.out; have hf4 := ht5.frozen k; have hl4 := cloned_own hr4; clear hr4 ht5))
      have HT4 := Lib.hid ht4
      have HB4 := Lib.hid hb4
      have HL4 := Lib.hid hl4
      clear ht4 hb4 hc4 hf4 hl4 HC
      go_wp2
      go_roundw
      case rel =>
        refine ⟨k + 1, _, by go_num, by omega, by rw [← forkTo_set k L xs HT.out.lenL HX.out]; exact HT4.out.1, ?_, ?_, ?_⟩
        · exact ((HB.out.drew).trans (HB4.out.mono HB.out.size)).setCell (p := ⟨w.heap.size, k, none⟩) (Nat.le_refl _) _
        · intro g hg
          rcases hg with rfl | ⟨j, u, hu, hgu⟩
          · exact Nat.le_refl _
          · rw [List.getElem?_set] at hu
            by_cases hkj : k = j
            · rw [if_pos hkj] at hu
              split at hu
              · cases hu
                rcases HL4.out with h | ⟨q, h, hq⟩
                · rw [h] at hgu; cases hgu
                · rw [h] at hgu; cases hgu
                  exact Nat.le_trans HB.out.size hq
              · cases hu
            · rw [if_neg hkj] at hu
              exact HOW.out g (.inr ⟨j, u, hu, hgu⟩)
        · rw [List.drop_set_of_lt (by omega)]
          have := congrArg (List.drop 1) HDR.out
          simpa [List.drop_drop] using this
      case measure => simp [intOf]; omega
    · have hk256 : k = 256 := by omega
      subst hk256
      have HF : Hid (Forked w L (.returned (.pointer (some ⟨w.heap.size, 0, none⟩))) wr) := by
        refine ⟨V', rfl, ?_, hb, hown⟩
        have : forkTo 256 L = L := by unfold forkTo; rw [List.take_of_length_le (by rw [HT.out.lenL]; omega)]; simp
        rw [← this]; exact ht'
      clear ht' hb hown hdr
      go_wp2
      go_ret
      exact HF.out
set_option maxHeartbeats 2000000 in
set_option maxRecDepth 100000 in
/-- 'Add' of items of which one may not be: nothing turns. -/
theorem add_bad (b c : Nat) (A : Option Addr) (ys : List It) (w : World) (hn : ys.length ≤ 65536) (hA : ItemsAt w A ys) (hbad : ¬ ∀ x ∈ ys, x.ok = true) :
    Calls Try.prog 7 #[.pointer (some ⟨b, 0, none⟩), .slice A ys.length c] w fun e w' => e = .returned (.int .i64 1) ∧ Below w.heap.size w w' := by
  obtain ⟨j, z, hj, hz, hlo⟩ := first_bad ys hbad
  have hjl := (List.getElem?_eq_some_iff.1 hj).1
  have HJ := Lib.hid hj
  have HLO := Lib.hid hlo
  have HA := Lib.hid hA
  have HZ := Lib.hid hz
  obtain ⟨n, hnl⟩ : ∃ n, ys.length = n := ⟨_, rfl⟩
  rw [hnl] at hjl hn ⊢
  have HNL := Lib.hid hnl
  clear hj hz hlo hA hbad hnl
  go_enter Try.func7, Try.ntmps7
  go_wp2
  go_loopw [15] (fun s wr => ∃ k : Nat, s = .int .i64 k ∧ k ≤ j ∧ Below w.heap.size w wr) (fun s _ => j - (intOf s).toNat)
  case atStart => exact ⟨0, rfl, Nat.zero_le _, Below.refl _ _⟩
  case round =>
    obtain ⟨k, rfl, hk, hb⟩ := hrel
    obtain ⟨x, hx⟩ : ∃ x, ys[k]? = some x := ⟨_, List.getElem?_eq_getElem (by rw [HNL.out]; omega)⟩
    obtain ⟨g, o, rfl, hg, hcx⟩ : ∃ g o, A = some ⟨g, o, none⟩ ∧ g < w.heap.size ∧ ∀ i x, ys[i]? = some x → CellsAt w g (o + i * 6) x := by
      rcases HA.out with e | h
      · rw [e] at hx; simp at hx
      · exact h
    obtain ⟨t0, t1, t2, t3, t4, t5⟩ := (hcx k x hx).below hb hg
    have hkn : k < n := by omega
    by_cases hkj : k = j
    · have hxo : x.ok = false := by rw [hkj, HJ.out] at hx; cases hx; exact HZ.out
      have HCX := fun W => Lib.hid (check_bad x W hxo)
      have HB := Lib.hid hb
      clear hcx hx hb hxo hkj
      go_wp2_with fail
      refine Calls.mono (HCX _).out ?_
      rintro e w2 ⟨rfl, hb2⟩
      have HB2 := Lib.hid ((HB.out.alloc HB.out.size _).trans (hb2.mono (by have := HB.out.size; simp; omega)))
      clear hb2
      go_wp2
      go_ret
      exact ⟨rfl, HB2.out⟩
    · have hkj2 : k < j := by omega
      have hxo : x.ok = true := HLO.out k x hkj2 hx
      have HCX := fun W => Lib.hid (check_ok x W hxo)
      have HB := Lib.hid hb
      clear hcx hx hb hxo hkj
      go_wp2_with fail
      refine Calls.mono (HCX _).out ?_
      rintro e w2 ⟨rfl, hb2⟩
      have HB2 := Lib.hid ((HB.out.alloc HB.out.size _).trans (hb2.mono (by have := HB.out.size; simp; omega)))
      clear hb2
      go_wp2
      go_roundw
      case rel => exact ⟨k + 1, by go_num, by omega, HB2.out⟩
      case measure => simp [intOf]; omega
end Go.Proofs.Ytgigihlmpdpggaa
