import Derived.Test.YtgigihlmpdpggaaQi
namespace Go.Proofs.Ytgigihlmpdpggaa
open Go.RowKit
/-- A list of texts, wherever it lies. -/
def TextsAt (w : World) (A : Option Addr) (ss : List ByteArray) : Prop := ss = [] ∨ ∃ g o, A = some ⟨g, o, none⟩ ∧ g < w.heap.size ∧ ∀ i s, ss[i]? = some s → w.cell? ⟨g, o + i, none⟩ = some (.string s)
theorem TextsAt.below {w w' : World} {A : Option Addr} {ss : List ByteArray} (h : TextsAt w A ss) (hb : Below w.heap.size w w') : TextsAt w' A ss := by
  rcases h with h | ⟨g, o, h1, h2, h3⟩
  · exact .inl h
  · exact .inr ⟨g, o, h1, Nat.lt_of_lt_of_le h2 hb.size, fun i s hs => (hb.cell (p := ⟨g, _, none⟩) h2).trans (h3 i s hs)⟩
theorem texts_of {w : World} {B n c : Nat} {A : Option Addr} {ss : List ByteArray} (h : w.ownsRow B 9 1 (.slice A n c) n (strs ss)) : TextsAt w A ss := by
  cases hs : ss with
  | nil => exact .inl rfl
  | cons s t =>
    subst hs
    obtain ⟨g, c', e, _, hg, _⟩ := text_at (k := 0) (s := s) h rfl
    injection e with e1 _ _
    subst e1
    refine .inr ⟨g, 0, rfl, hg, fun i u hu => ?_⟩
    obtain ⟨g', c', e, _, _, hc⟩ := text_at h hu
    injection e with e1 _ _
    cases e1
    rw [Nat.zero_add]
    exact hc
theorem TextsAt.take {w : World} {A : Option Addr} {ss : List ByteArray} (h : TextsAt w A ss) (r : Nat) : TextsAt w A (ss.take r) := by
  rcases h with rfl | ⟨g, o, h1, h2, h3⟩
  · exact .inl (by simp)
  · refine .inr ⟨g, o, h1, h2, fun i x hx => h3 i x ?_⟩
    rw [List.getElem?_take] at hx
    split at hx
    · exact hx
    · cases hx
theorem strs_length (ss : List ByteArray) : (strs ss).length = ss.length := by simp [strs]
theorem strs_append (xs ys : List ByteArray) : strs (xs ++ ys) = strs xs ++ strs ys := by simp [strs]
theorem src_none_s (w : World) (A : Option Addr) (c : Nat) : Src Try.prog 1 41 (.slice A 0 c) 0 [] w := by
  refine ⟨.inl ⟨_, Try.underlying41⟩, fun w' => rfl, ?_, ?_, rfl, by simp⟩
  · cases A <;> simp [Builtin.firstCells, loadCells, loadCellsFrom]
  · cases A <;> simp [Builtin.firstCells, loadCells, loadCellsFrom]
theorem append_texts (B : Nat) (w : World) (o : Value) (n m c : Nat) (ks : List Value) (A : Option Addr) (ss : List ByteArray) (hown : w.ownsRow B 9 1 o n ks) (hA : TextsAt w A ss) (hm : ss.length = m) (hB : B ≤ w.heap.size) (hn : n + m ≤ 33554432) :
    ∃ o' w', (Builtin.append_ #[41, 41] 41 #[o, .slice A m c]).run Try.prog w = .ok o' w' ∧ w'.ownsRow B 9 1 o' (n + m) (ks ++ strs ss) ∧ w.grownBy w' o.ownBlock := by
  obtain ⟨i0, hi0, hz0, hz1, hz2⟩ := info_parts str_info
  rcases hA with rfl | ⟨g, off, rfl, hg, hc⟩
  · simp at hm
    subst hm
    obtain ⟨A', c', rfl, hc⟩ : ∃ A c, o = .slice A n c ∧ n ≤ c := by
      rcases hown.2 with ⟨rfl, rfl⟩ | ⟨_, c, _, rfl, _, _, h2, _⟩
      · exact ⟨_, _, rfl, Nat.le_refl _⟩
      · exact ⟨_, c, rfl, h2⟩
    exact ⟨_, w, run_append_nothing w _ _ _ 9 i0 Try.underlying41 hi0 A' n c' hc _ (by rw [hz1]; exact src_none_s w A c), by simpa [strs] using hown, ⟨rfl, rfl, rfl, Nat.le_refl _, fun _ _ _ => rfl⟩⟩
  · subst hm
    obtain ⟨v', w', hrun, hrow', hgrow, _, _⟩ := run_append_own_at (P := Try.prog) w B 41 41 9 i0 _ 1 16 Try.underlying41 hi0 hz0 hz1 hz2 rfl (by omega) o n ks hown ⟨g, off, none⟩ ss.length c (strs ss) (by rw [strs_length]; omega)
      (fun j u hu => by
        rw [Go.WideShapes.add_plain]
        simp only [strs, List.getElem?_map] at hu
        cases hs : ss[j]? with
        | none => rw [hs] at hu; cases hu
        | some s => rw [hs] at hu; cases hu; exact hc j s hs)
      (fun u hu => by simp only [strs, List.mem_map] at hu; obtain ⟨x, _, rfl⟩ := hu; rfl) (by unfold maxLen; omega) (by omega) hB
    exact ⟨v', w', hrun, hrow', hgrow⟩
/-- Where a text stands among others, and the list with it. -/
def pinsAt (s : ByteArray) (l : List ByteArray) : Nat := (l.takeWhile fun t => Op.bytesLess t.toList s.toList).length
def pins (s : ByteArray) (l : List ByteArray) : List ByteArray := if (l[pinsAt s l]?).any fun t => t.toList == s.toList then l else l.take (pinsAt s l) ++ s :: l.drop (pinsAt s l)
theorem pinsAt_le (s : ByteArray) (l : List ByteArray) : pinsAt s l ≤ l.length := takeWhile_le _ _
theorem pinsAt_lo (s : ByteArray) (l : List ByteArray) (i : Nat) (t : ByteArray) (h : i < pinsAt s l) (ht : l[i]? = some t) : Op.bytesLess t.toList s.toList = true := by
  obtain ⟨x, h1, h2, h3⟩ := takeWhile_at (fun t : ByteArray => Op.bytesLess t.toList s.toList) l i h
  rw [ht] at h2
  cases h2
  exact h3
theorem pinsAt_stop (s : ByteArray) (l : List ByteArray) (t : ByteArray) (ht : l[pinsAt s l]? = some t) : Op.bytesLess t.toList s.toList = false :=
  takeWhile_stop (fun t : ByteArray => Op.bytesLess t.toList s.toList) l t ht
theorem pins_length (s : ByteArray) (l : List ByteArray) : (pins s l).length ≤ l.length + 1 := by
  unfold pins
  split
  · omega
  · have := pinsAt_le s l; simp; omega
def rpacks (l : List It) : List ByteArray := l.foldl (fun out x => pins x.pack out) []
theorem rpacks_length (l : List It) : ∀ out : List ByteArray, (l.foldl (fun out x => pins x.pack out) out).length ≤ out.length + l.length := by
  induction l with
  | nil => intro out; exact Nat.le_refl _
  | cons x l ih =>
    intro out
    have h1 := ih (pins x.pack out)
    have h2 := pins_length x.pack out
    simp only [List.foldl_cons, List.length_cons]
    omega
theorem addr_of {w : World} {B n c j : Nat} {A : Option Addr} {ks : List Value} (h : w.ownsRow B 9 1 (.slice A n c) n ks) (hj : j < c) : ∃ g, A = some ⟨g, 0, none⟩ := by
  rcases h.2 with ⟨e, _⟩ | ⟨g, _, _, e, _⟩
  · injection e with _ _ e3; omega
  · injection e with e1 _ _; exact ⟨g, e1⟩
/-- What the document's 'Packs' comes to. -/
def RPacked (w : World) (ss : List ByteArray) (e : Ending) (w' : World) : Prop := ∃ v, e = .returned v ∧ w'.ownsRow w.heap.size 9 1 v ss.length (strs ss) ∧ Below w.heap.size w w'
set_option maxHeartbeats 4000000 in
set_option maxRecDepth 100000 in
theorem rpacks_any (p : Nat) (v : Value) (l : List It) (w : World) (ht : RTab w p v l) (hn : l.length ≤ 65536) :
    Calls Try.prog 42 #[.pointer (some ⟨p, 0, none⟩)] w (RPacked w (rpacks l)) := by
  obtain ⟨A, c, hv⟩ := ht.row.lenV
  obtain ⟨n, hnl⟩ : ∃ n, l.length = n := ⟨_, rfl⟩
  rw [hnl] at hv hn
  subst hv
  have HNL := Lib.hid hnl
  have HT := Lib.hid ht
  clear hnl ht
  go_enter Try.func42, Try.ntmps42
  go_wp2
  go_loopw [3, 4] (fun o a wr => ∃ k : Nat, a = .int .i64 k ∧ k ≤ n ∧ wr.ownsRow w.heap.size 9 1 o (rpacks (l.take k)).length (strs (rpacks (l.take k))) ∧ Below w.heap.size w wr) (fun _ a _ => n - (intOf a).toNat)
  case atStart => exact ⟨0, rfl, Nat.zero_le _, World.ownsRow_nil _ _ _ _, Below.refl _ _⟩
  case round =>
    obtain ⟨k, rfl, hk, hown, hb⟩ := hrel
    have hcell := (HT.out.below hb).cell
    by_cases hkn : k < n
    · obtain ⟨x, hx⟩ : ∃ x, l[k]? = some x := ⟨_, List.getElem?_eq_getElem (by rw [HNL.out]; omega)⟩
      obtain ⟨g, rfl, hg, t0, t1, t2, t3, t4, t5⟩ := row_items_at HT.out.row hb hx rfl
      have hpl : (rpacks (l.take k)).length ≤ k := by
        have h1 := rpacks_length (l.take k) []
        have h2 : (l.take k).length ≤ k := List.length_take_le _ _
        simp only [rpacks, List.length_nil] at *
        omega
      have hps : rpacks (l.take (k + 1)) = pins x.pack (rpacks (l.take k)) := by
        rw [List.take_add_one, hx]; simp [rpacks, List.foldl_append]
      obtain ⟨ss, hss⟩ : ∃ ss, rpacks (l.take k) = ss := ⟨_, rfl⟩
      rw [hss] at hown hpl hps
      obtain ⟨m, hm⟩ : ∃ m, ss.length = m := ⟨_, rfl⟩
      rw [hm] at hown hpl
      obtain ⟨A3, c3, rfl⟩ : ∃ A c, u3 = Value.slice A m c := by
        rcases hown.2 with ⟨rfl, h0⟩ | ⟨_, _, _, rfl, _⟩
        · exact ⟨_, _, by rw [h0]⟩
        · exact ⟨_, _, rfl⟩
      have hmc : m ≤ c3 := by
        rcases hown.2 with ⟨e, h0⟩ | ⟨_, _, _, e, _, _, h, _⟩
        · omega
        · injection e with _ _ e3; omega
      obtain ⟨r, hr⟩ : ∃ r, pinsAt x.pack ss = r := ⟨_, rfl⟩
      have HLO := Lib.hid (pinsAt_lo x.pack ss)
      have HST := Lib.hid (pinsAt_stop x.pack ss)
      have hrm := pinsAt_le x.pack ss
      have HPN : Hid (pins x.pack ss = if (ss[r]?).any fun t => t.toList == x.pack.toList then ss else ss.take r ++ x.pack :: ss.drop r) := by rw [← hr]; rfl
      rw [hr] at HLO HST hrm
      rw [hm] at hrm
      have HPS := Lib.hid hps
      have HM := Lib.hid hm
      have HOW := Lib.hid hown
      have HB := Lib.hid hb
      clear hx hss hps hm hr hown hb
      obtain ⟨wo, rfl⟩ : ∃ wo : World, wo = wr := ⟨_, rfl⟩
      go_wp2
      go_loopw [6] (fun s w2 => ∃ j : Nat, s = .int .i64 j ∧ j ≤ r ∧ w2 = wo) (fun s _ => r - (intOf s).toNat)
      case atStart => exact ⟨0, rfl, Nat.zero_le _, rfl⟩
      case round =>
        obtain ⟨j, rfl, hj, hww⟩ := hrel
        obtain rfl := hww.symm
        by_cases hjr : j < r
        · obtain ⟨t, ht⟩ : ∃ t, ss[j]? = some t := ⟨_, List.getElem?_eq_getElem (by rw [HM.out]; omega)⟩
          obtain ⟨gs, cs, hgs, _, _, hcs⟩ := text_at HOW.out ht
          cases hgs
          have hbl := HLO.out j t hjr ht
          have hjm : j < m := by omega
          clear ht
          go_wp2
          go_roundw
          case rel => exact ⟨j + 1, by go_num, by omega, trivial⟩
          case measure => simp [intOf]; omega
        · have hjr2 : j = r := by omega
          subst hjr2
          by_cases hjm : j < m
          · obtain ⟨t, ht⟩ : ∃ t, ss[j]? = some t := ⟨_, List.getElem?_eq_getElem (by rw [HM.out]; omega)⟩
            obtain ⟨gs, cs, hgs, _, hgsl, hcs⟩ := text_at HOW.out ht
            cases hgs
            have hbl := HST.out t ht
            have HTT := Lib.hid ht
            by_cases heq : (t.toList == x.pack.toList) = true
            · have HPI : Hid (pins x.pack ss = ss) := by
                refine Lib.hid ?_
                rw [HPN.out, HTT.out]
                simp only [Option.any_some, heq, if_true]
              have hr2 : wo.ownsRow w.heap.size 9 1 (.slice (some ⟨gs, 0, none⟩) m c3) (rpacks (l.take (k + 1))).length (strs (rpacks (l.take (k + 1)))) := by
                rw [HPS.out, HPI.out, HM.out]; exact HOW.out
              have HR2 := Lib.hid hr2
              clear ht hr2
              go_wp2
              go_roundw
              case rel => exact ⟨k + 1, by go_num, by omega, HR2.out, HB.out⟩
              case measure => simp [intOf]; omega
            · have heq2 : (t.toList == x.pack.toList) = false := by simpa using heq
              have HPI : Hid (pins x.pack ss = ss.take j ++ x.pack :: ss.drop j) := by
                refine Lib.hid ?_
                rw [HPN.out, HTT.out]
                simp only [Option.any_some, heq2, Bool.false_eq_true, if_false]
              have HDR : Hid (TextsAt wo (some ⟨gs, j, none⟩) (ss.drop j)) := .inr ⟨gs, j, rfl, hgsl, fun i s hs => by
                rw [List.getElem?_drop] at hs
                obtain ⟨g2, c2, e, _, _, hc⟩ := text_at HOW.out hs
                injection e with e1 _ _
                cases e1
                exact hc⟩
              clear ht heq
              obtain ⟨o1, w1, hrun1, hown1, hgr1⟩ := append_texts wo.heap.size wo (.slice none 0 0) 0 j c3 [] (some ⟨gs, 0, none⟩) (ss.take j) (World.ownsRow_nil _ _ _ _) ((texts_of HOW.out).take j) (by rw [List.length_take, HM.out]; omega) (Nat.le_refl _) (by omega)
              have hb1 : Below wo.heap.size wo w1 := (Below.refl _ _).grown hgr1 (Nat.le_refl _) (fun k e => by cases e)
              obtain ⟨o2, w2, hrun2, hown2, hbel2⟩ := text_push wo.heap.size w1 o1 (0 + j) _ x.pack hown1 hb1.size (by omega)
              have hb2 := hbel2 wo hb1
              have HB2 := Lib.hid hb2
              have HRUN2 := Lib.hid hrun2
              have HO2 := Lib.hid hown2
              clear hown1 hgr1 hb1 hown2 hbel2 hb2 hrun2
              go_upto_region 12 with (at_builtin; refine Lib.wpList_append_run _ rfl (.tmp 52) (.tmp 55) _ _ rfl _ _ rfl rfl _ _ hrun1 ?_)
              have hrun2 := HRUN2.out
              clear hrun1 HRUN2
              go_upto_region 13 with (at_builtin; refine Lib.wpList_append_run _ rfl (.tmp 57) (.tmp 59) _ _ rfl _ _ rfl rfl _ _ hrun2 ?_)
              clear hrun2
              have hne : ¬ c3 = j := by omega
              obtain ⟨o3, w3, hrun3, hown3, hgr3⟩ := append_texts wo.heap.size w2 o2 (0 + j + 1) (m - j) (c3 - j) _ (some ⟨gs, j, none⟩) (ss.drop j) HO2.out (HDR.out.below HB2.out) (by rw [List.length_drop, HM.out]) HB2.out.size (by omega)
              have hb3 : Below wo.heap.size wo w3 := HB2.out.grown hgr3 HB2.out.size (fun k e => (HO2.out.lt k e).1)
              have HB3 := Lib.hid (HB.out.trans (hb3.mono HB.out.size))
              have hr3 : w3.ownsRow w.heap.size 9 1 o3 (rpacks (l.take (k + 1))).length (strs (rpacks (l.take (k + 1)))) := by
                have hl : (rpacks (l.take (k + 1))).length = 0 + j + 1 + (m - j) := by rw [HPS.out, HPI.out]; simp [HM.out]; omega
                rw [hl, HPS.out, HPI.out, show x.pack :: ss.drop j = [x.pack] ++ ss.drop j from rfl, strs_append, strs_append]
                refine ownsRow_base HB.out.size ?_
                simpa [strs] using hown3
              have HR3 := Lib.hid hr3
              clear hown3 hgr3 hb3 hr3
              go_wp2_with (at_builtin; refine Lib.wpList_append_run _ rfl (.tmp 61) (.tmp 64) _ _ rfl _ _ rfl rfl _ _ hrun3 ?_)
              go_roundw
              case rel => exact ⟨k + 1, by go_num, by omega, HR3.out, HB3.out⟩
              case measure => simp [intOf]; omega
          · have HPI : Hid (pins x.pack ss = ss.take j ++ x.pack :: ss.drop j) := by
              refine Lib.hid ?_
              rw [HPN.out, List.getElem?_eq_none (by rw [HM.out]; omega)]; rfl
            have hmj : m ≤ j := by omega
            obtain ⟨o1, w1, hrun1, hown1, hgr1⟩ := append_texts wo.heap.size wo (.slice none 0 0) 0 j c3 [] A3 (ss.take j) (World.ownsRow_nil _ _ _ _) ((texts_of HOW.out).take j) (by rw [List.length_take, HM.out]; omega) (Nat.le_refl _) (by omega)
            have hb1 : Below wo.heap.size wo w1 := (Below.refl _ _).grown hgr1 (Nat.le_refl _) (fun k e => by cases e)
            obtain ⟨o2, w2, hrun2, hown2, hbel2⟩ := text_push wo.heap.size w1 o1 (0 + j) _ x.pack hown1 hb1.size (by omega)
            have hb2 := hbel2 wo hb1
            have HB2 := Lib.hid hb2
            have HRUN2 := Lib.hid hrun2
            have HO2 := Lib.hid hown2
            clear hown1 hgr1 hb1 hown2 hbel2 hb2 hrun2
            go_upto_region 12 with (at_builtin; refine Lib.wpList_append_run _ rfl (.tmp 52) (.tmp 55) _ _ rfl _ _ rfl rfl _ _ hrun1 ?_)
            have hrun2 := HRUN2.out
            clear hrun1 HRUN2
            go_upto_region 13 with (at_builtin; refine Lib.wpList_append_run _ rfl (.tmp 57) (.tmp 59) _ _ rfl _ _ rfl rfl _ _ hrun2 ?_)
            clear hrun2
            rcases Nat.lt_or_ge j c3 with hjc | hjc
            · have hne : ¬ c3 = j := by omega
              obtain ⟨gs, rfl⟩ := addr_of HOW.out hjc
              obtain ⟨o3, w3, hrun3, hown3, hgr3⟩ := append_texts wo.heap.size w2 o2 (0 + j + 1) 0 (c3 - j) _ (some ⟨gs, j, none⟩) (ss.drop j) HO2.out (.inl (List.drop_eq_nil_of_le (by rw [HM.out]; omega))) (by rw [List.length_drop, HM.out]; omega) HB2.out.size (by omega)
              have hb3 : Below wo.heap.size wo w3 := HB2.out.grown hgr3 HB2.out.size (fun k e => (HO2.out.lt k e).1)
              have HB3 := Lib.hid (HB.out.trans (hb3.mono HB.out.size))
              have hr3 : w3.ownsRow w.heap.size 9 1 o3 (rpacks (l.take (k + 1))).length (strs (rpacks (l.take (k + 1)))) := by
                have hl : (rpacks (l.take (k + 1))).length = 0 + j + 1 + 0 := by rw [HPS.out, HPI.out]; simp [HM.out]; omega
                rw [hl, HPS.out, HPI.out, show x.pack :: ss.drop j = [x.pack] ++ ss.drop j from rfl, strs_append, strs_append]
                refine ownsRow_base HB.out.size ?_
                simpa [strs] using hown3
              have HR3 := Lib.hid hr3
              clear hown3 hgr3 hb3 hr3
              go_wp2_with (at_builtin; refine Lib.wpList_append_run _ rfl (.tmp 61) (.tmp 64) _ _ rfl _ _ rfl rfl _ _ hrun3 ?_)
              go_roundw
              case rel => exact ⟨k + 1, by go_num, by omega, HR3.out, HB3.out⟩
              case measure => simp [intOf]; omega
            · have hjc2 : j = c3 := by omega
              subst hjc2
              obtain ⟨o3, w3, hrun3, hown3, hgr3⟩ := append_texts wo.heap.size w2 o2 (0 + j + 1) 0 0 _ A3 (ss.drop j) HO2.out (.inl (List.drop_eq_nil_of_le (by rw [HM.out]; omega))) (by rw [List.length_drop, HM.out]; omega) HB2.out.size (by omega)
              have hb3 : Below wo.heap.size wo w3 := HB2.out.grown hgr3 HB2.out.size (fun k e => (HO2.out.lt k e).1)
              have HB3 := Lib.hid (HB.out.trans (hb3.mono HB.out.size))
              have hr3 : w3.ownsRow w.heap.size 9 1 o3 (rpacks (l.take (k + 1))).length (strs (rpacks (l.take (k + 1)))) := by
                have hl : (rpacks (l.take (k + 1))).length = 0 + j + 1 + 0 := by rw [HPS.out, HPI.out]; simp [HM.out]; omega
                rw [hl, HPS.out, HPI.out, show x.pack :: ss.drop j = [x.pack] ++ ss.drop j from rfl, strs_append, strs_append]
                refine ownsRow_base HB.out.size ?_
                simpa [strs] using hown3
              have HR3 := Lib.hid hr3
              clear hown3 hgr3 hb3 hr3
              go_wp2_with (at_builtin; refine Lib.wpList_append_run _ rfl (.tmp 61) (.tmp 64) _ _ rfl _ _ rfl rfl _ _ hrun3 ?_)
              go_roundw
              case rel => exact ⟨k + 1, by go_num, by omega, HR3.out, HB3.out⟩
              case measure => simp [intOf]; omega
    · have HF : Hid (RPacked w (rpacks l) (.returned u3) wr) := by
        rw [List.take_of_length_le (by rw [HNL.out]; omega)] at hown
        exact ⟨_, rfl, hown, hb⟩
      clear hown hb
      go_wp2
      go_ret
      exact HF.out
end Go.Proofs.Ytgigihlmpdpggaa
