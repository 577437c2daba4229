import Derived.Test.YtgigihlmpdpggaaQh
import Derived.Test.YtgigihlmpdpggaaPna
namespace Go.Proofs.Ytgigihlmpdpggaa
open Go.RowKit
theorem text_at {w : World} {B n k : Nat} {o : Value} {ss : List ByteArray} {s : ByteArray} (h : w.ownsRow B 9 1 o n (strs ss)) (hs : ss[k]? = some s) : ∃ g c, o = .slice (some ⟨g, 0, none⟩) n c ∧ B ≤ g ∧ g < w.heap.size ∧ w.cell? ⟨g, k, none⟩ = some (.string s) := by
  have hk := (List.getElem?_eq_some_iff.1 hs).1
  have hl := h.1
  simp [strs] at hl
  rcases h.2 with ⟨rfl, h0⟩ | ⟨g, cap, cur, rfl, hg, hb, hn, hc, hsz, htk⟩
  · omega
  · refine ⟨g, cap, rfl, hg, (Array.getElem?_eq_some_iff.1 hb).1, ?_⟩
    rw [cell_of_row w g k _ _ (0, 0) hb]
    have h1 : (strs ss)[k]? = some (.string s) := by simp [strs, hs]
    rw [← htk, List.getElem?_take] at h1
    split at h1
    · simpa using h1
    · cases h1
set_option maxHeartbeats 4000000 in
set_option maxRecDepth 100000 in
theorem ids_any (b : Nat) (V : List Value) (L : List (List It)) (w : World) (ht : Tab w b V L) (hlen : ∀ xs ∈ L, xs.length ≤ 65536) (hn : L.flatten.length ≤ 65536) :
    Calls Try.prog 16 #[.pointer (some ⟨b, 0, none⟩)] w (Idd w L.flatten) := by
  obtain ⟨l, hl⟩ : ∃ l, L.flatten = l := ⟨_, rfl⟩
  obtain ⟨n, hnl⟩ : ∃ n, l.length = n := ⟨_, rfl⟩
  have HA := Lib.hid (all_of b V L l n w ht hlen hl hnl)
  rw [hl] at hn ⊢
  rw [hnl] at hn
  have HNL := Lib.hid hnl
  clear ht hlen hl hnl
  go_enter Try.func16, Try.ntmps16
  go_wp2_with fail
  refine Calls.mono HA.out ?_
  rintro e w1 ⟨A, c, rfl, hrow, hb1⟩
  have HROW := Lib.hid hrow
  have HB1 := Lib.hid hb1
  clear hrow hb1 HA
  go_wp2
  go_loopw [3, 9] (fun o a wr => ∃ k : Nat, a = .int .i64 k ∧ k ≤ n ∧ wr.ownsRow w1.heap.size 9 1 o (idsTo l k).length (strs (idsTo l k)) ∧ Below w1.heap.size w1 wr) (fun _ a _ => n - (intOf a).toNat)
  case atStart => exact ⟨0, rfl, Nat.zero_le _, World.ownsRow_nil _ _ _ _, Below.refl _ _⟩
  case round =>
    obtain ⟨k, rfl, hk, hown, hb⟩ := hrel
    by_cases hkn : k < n
    · obtain ⟨x, hx⟩ : ∃ x, l[k]? = some x := ⟨_, List.getElem?_eq_getElem (by rw [HNL.out]; omega)⟩
      obtain ⟨g, rfl, hg, t0, t1, t2, t3, t4, t5⟩ := row_items_at HROW.out hb hx rfl
      have hfl := idsTo_length l k
      have hfs := idsTo_succ l k x hx
      obtain ⟨fb, hfb⟩ : ∃ fb, fresh l k = fb := ⟨_, rfl⟩
      rw [hfb] at hfs
      have HB := Lib.hid hb
      have HOW := Lib.hid hown
      have HX := Lib.hid hx
      have HFB := Lib.hid hfb
      clear hx hfb
      go_upto_region 5 with fail
      go_cut [26] (fun s wx => s = .bool fb ∧ ∃ q, wx = (wr.alloc (.cells #[.string x.id, .string x.pack, .int .i64 x.kind, .int .i64 x.off, .int .i64 x.long, .int .i64 x.size] 32)).drewN q)
      case first =>
        by_cases hk0 : k = 0
        · subst hk0
          have : fb = true := by rw [← HFB.out]; rfl
          subst this
          obtain ⟨A3, c3, rfl⟩ : ∃ A c, u3 = Value.slice A 0 c := by
            rcases hown.2 with ⟨rfl, _⟩ | ⟨_, _, _, rfl, _⟩ <;> exact ⟨_, _, rfl⟩
          clear hfs hown hb
          go_quiet (fail)
          go_wp2
          go_meet
          case rel => exact ⟨rfl, _, rfl⟩
        · obtain ⟨m, hm⟩ : ∃ m, k = m + 1 := ⟨k - 1, by omega⟩
          obtain ⟨y, hy⟩ : ∃ y, l[m]? = some y := ⟨_, List.getElem?_eq_getElem (by rw [HNL.out]; omega)⟩
          have hlast := idsTo_last l m y hy
          rw [← hm] at hlast
          have hlx := HX.out
          have hfb2 : fb = !(x.id.toList == y.id.toList) := by rw [← HFB.out, hm]; rw [hm] at hlx; simp only [fresh, hlx, hy]
          obtain ⟨ct, hct⟩ : ∃ ct, (idsTo l k).length = ct := ⟨_, rfl⟩
          have hpos : 0 < ct := by
            rw [← hct]
            cases hq : idsTo l k with
            | nil => rw [hq] at hlast; cases hlast
            | cons a t => simp
          rw [List.getLast?_eq_getElem?, hct] at hlast
          rw [hct] at hown hfl
          obtain ⟨g', c', rfl, hg1, hg2, hcell'⟩ := text_at hown hlast
          have hfb3 : fb = !(y.id.toList == x.id.toList) := by
            rw [hfb2]
            congr 1
            rw [Bool.eq_iff_iff, beq_iff_eq, beq_iff_eq]
            exact eq_comm
          subst hfb3
          obtain ⟨j, hj⟩ : ∃ j, ct - 1 = j := ⟨_, rfl⟩
          rw [hj] at hcell'
          have e2 : IntKind.i64.wrap ((ct : Int) - 1) = (j : Int) := by rw [IntWalk.i64_in _ (by omega)]; omega
          have e3 : (0 : Int) ≤ (j : Int) := by omega
          have e4 : (j : Int) < (ct : Int) := by omega
          have e5 : ((ct : Int) == 0) = false := by simp; omega
          have e6 : (ct == 0) = false := by simp; omega
          have e7 : decide (ct = 0) = false := by simp; omega
          clear hfs hown hb hk0 hm hy hfb2 hlast hlx hct hj
          go_quiet (fail)
          go_wp2
          go_meet
          case rel => exact ⟨rfl, _, rfl⟩
      case rest =>
        obtain ⟨rfl, q, hq⟩ := hcut
        have HFS := Lib.hid hfs
        have HQ := Lib.hid hq
        clear hown hb hfs
        have hown2 : wc.ownsRow w1.heap.size 9 1 u3 (idsTo l k).length (strs (idsTo l k)) := by rw [HQ.out]; exact HOW.out.alloc _
        have hb2 : Below w1.heap.size w1 wc := by rw [HQ.out]; exact below_drewN (HB.out.alloc HB.out.size _) q
        have d0 : wc.cell? ⟨wr.heap.size, 0, none⟩ = some (.string x.id) := by rw [HQ.out]; exact (CellsAt.new wr x).c0
        cases fb
        · have hr2 : wc.ownsRow w1.heap.size 9 1 u3 (idsTo l (k + 1)).length (strs (idsTo l (k + 1))) := by
            rw [HFS.out]; simpa using hown2
          have HR := Lib.hid hr2
          have HB2 := Lib.hid hb2
          clear hown2 hb2 hr2 hq
          go_wp2
          go_roundw
          case rel => exact ⟨k + 1, by go_num, by omega, HR.out, HB2.out⟩
          case measure => simp [intOf]; omega
        · obtain ⟨v', w', hrun, hrow', hbel⟩ := text_push w1.heap.size wc _ _ _ x.id hown2 hb2.size (by omega)
          have hr2 : w'.ownsRow w1.heap.size 9 1 v' (idsTo l (k + 1)).length (strs (idsTo l (k + 1))) := by
            rw [HFS.out, if_pos rfl, strs_snoc, List.length_append]; exact hrow'
          have HR := Lib.hid hr2
          have HB2 := Lib.hid (hbel w1 hb2)
          clear hown2 hb2 hr2 hq hrow' hbel
          go_wp2_with (at_builtin; refine Lib.wpList_append_run _ rfl (.tmp 27) (.tmp 30) _ _ rfl _ _ rfl rfl _ _ hrun ?_)
          go_roundw
          case rel => exact ⟨k + 1, by go_num, by omega, HR.out, HB2.out⟩
          case measure => simp [intOf]; omega
    · have HF : Hid (Idd w l (.returned u3) wr) := by
        have : k = n := by omega
        rw [this, ← HNL.out] at hown
        exact ⟨_, rfl, ownsRow_base HB1.out.size hown, HB1.out.trans (hb.mono HB1.out.size)⟩
      clear hown hb
      go_wp2
      go_ret
      exact HF.out
end Go.Proofs.Ytgigihlmpdpggaa
