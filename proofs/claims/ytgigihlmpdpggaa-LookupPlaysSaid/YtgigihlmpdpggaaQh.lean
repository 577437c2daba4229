import Derived.Test.YtgigihlmpdpggaaQg
import Derived.Test.YtgigihlmpdpggaaLkPa
namespace Go.Proofs.Ytgigihlmpdpggaa
open Go.RowKit
/-- Is the k-th item the first of its id? -/
def fresh (l : List It) : Nat → Bool
  | 0 => true
  | k + 1 => match l[k + 1]?, l[k]? with
    | some x, some y => !(x.id.toList == y.id.toList)
    | _, _ => false
def idsTo (l : List It) : Nat → List ByteArray
  | 0 => []
  | k + 1 => idsTo l k ++ if fresh l k then ((l[k]?).map It.id).toList else []
theorem idsTo_length (l : List It) (k : Nat) : (idsTo l k).length ≤ k := by
  induction k with
  | zero => exact Nat.le_refl _
  | succ k ih =>
    simp only [idsTo, List.length_append]
    split
    · cases l[k]? <;> simp <;> omega
    · simp; omega
theorem idsTo_succ (l : List It) (k : Nat) (x : It) (hx : l[k]? = some x) : idsTo l (k + 1) = idsTo l k ++ if fresh l k then [x.id] else [] := by
  simp only [idsTo, hx]; rfl
theorem idsTo_last (l : List It) : ∀ (k : Nat) (y : It), l[k]? = some y → (idsTo l (k + 1)).getLast? = some y.id
  | 0, y, h => by rw [idsTo_succ l 0 y h]; simp [idsTo, fresh]
  | k + 1, y, h => by
    rw [idsTo_succ l (k + 1) y h]
    obtain ⟨x, hx⟩ : ∃ x, l[k]? = some x := ⟨_, List.getElem?_eq_getElem (by have := (List.getElem?_eq_some_iff.1 h).1; omega)⟩
    have ih := idsTo_last l k x hx
    have hf : fresh l (k + 1) = !(y.id.toList == x.id.toList) := by simp only [fresh, h, hx]
    cases hb : (y.id.toList == x.id.toList)
    · rw [hf, hb]; simp
    · rw [hf, hb]
      have : y.id = x.id := toList_inj (by simpa using hb)
      simp [ih, this]
/-- What 'Ids' comes to. -/
def Idd (w : World) (l : List It) (e : Ending) (w' : World) : Prop := ∃ v, e = .returned v ∧ w'.ownsRow w.heap.size 9 1 v (idsTo l l.length).length (strs (idsTo l l.length)) ∧ Below w.heap.size w w'
theorem strs_snoc (xs : List ByteArray) (s : ByteArray) : strs (xs ++ [s]) = strs xs ++ [.string s] := by simp [strs]
set_option maxHeartbeats 4000000 in
set_option maxRecDepth 100000 in
theorem rids_any (p : Nat) (v : Value) (l : List It) (w : World) (ht : RTab w p v l) (hn : l.length ≤ 65536) :
    Calls Try.prog 41 #[.pointer (some ⟨p, 0, none⟩)] w (Idd w l) := by
  obtain ⟨A, c, hv⟩ := ht.row.lenV
  obtain ⟨n, hnl⟩ : ∃ n, l.length = n := ⟨_, rfl⟩
  rw [hnl] at hv hn
  subst hv
  have HNL := Lib.hid hnl
  have HT := Lib.hid ht
  clear hnl ht
  go_enter Try.func41, Try.ntmps41
  go_wp2
  go_loopw [3, 4] (fun o a wr => ∃ k : Nat, a = .int .i64 k ∧ k ≤ n ∧ wr.ownsRow w.heap.size 9 1 o (idsTo l k).length (strs (idsTo l k)) ∧ Below w.heap.size w wr) (fun _ a _ => n - (intOf a).toNat)
  case atStart => exact ⟨0, rfl, Nat.zero_le _, World.ownsRow_nil _ _ _ _, Below.refl _ _⟩
  case round =>
    obtain ⟨k, rfl, hk, hown, hb⟩ := hrel
    have hcell := (HT.out.below hb).cell
    by_cases hkn : k < n
    · obtain ⟨x, hx⟩ : ∃ x, l[k]? = some x := ⟨_, List.getElem?_eq_getElem (by rw [HNL.out]; omega)⟩
      obtain ⟨g, rfl, hg, t0, t1, t2, t3, t4, t5⟩ := row_items_at HT.out.row hb hx rfl
      have hfl := idsTo_length l k
      have hfs := idsTo_succ l k x hx
      obtain ⟨fb, hfb⟩ : ∃ fb, fresh l k = fb := ⟨_, rfl⟩
      rw [hfb] at hfs
      have e0 : (0 : Int) ≤ (k : Int) := by omega
      have e1 : (k : Int) < (n : Int) := by omega
      have HB := Lib.hid hb
      have HOW := Lib.hid hown
      go_upto_region 5 with fail
      go_cut [35] (fun s wx => s = .bool fb ∧ ∃ q, wx = wr.drewN q)
      case first =>
        by_cases hk0 : k = 0
        · subst hk0
          have : fb = true := by rw [← hfb]; rfl
          subst this
          clear hx hfb hfs hown hb
          go_quiet (fail)
          go_wp2
          go_meet
          case rel => exact ⟨rfl, _, rfl⟩
        · obtain ⟨m, hm⟩ : ∃ m, k = m + 1 := ⟨k - 1, by omega⟩
          obtain ⟨y, hy⟩ : ∃ y, l[m]? = some y := ⟨_, List.getElem?_eq_getElem (by rw [HNL.out]; omega)⟩
          obtain ⟨g', hgg, hg', s0, s1, s2, s3, s4, s5⟩ := row_items_at HT.out.row hb hy rfl
          cases hgg
          have hfb2 : fb = !(x.id.toList == y.id.toList) := by rw [← hfb, hm]; rw [hm] at hx; simp only [fresh, hx, hy]
          subst hfb2
          have e2 : IntKind.i64.wrap ((k : Int) - 1) = (m : Int) := by rw [IntWalk.i64_in _ (by omega)]; omega
          have e3 : (0 : Int) ≤ (m : Int) := by omega
          have e4 : (m : Int) < (n : Int) := by omega
          have e5 : ((k : Int) == 0) = false := by simpa using hk0
          have e6 : (k == 0) = false := by simpa using hk0
          have e7 : decide (k = 0) = false := by simpa using hk0
          clear hx hfb hfs hown hb hk0 hm hy
          go_quiet (fail)
          go_wp2
          go_meet
          case rel => exact ⟨rfl, _, rfl⟩
      case rest =>
        obtain ⟨rfl, q, hq⟩ := hcut
        have HFS := Lib.hid hfs
        have HQ := Lib.hid hq
        clear hown hb hfs hx hfb
        have hown2 : wc.ownsRow w.heap.size 9 1 u3 (idsTo l k).length (strs (idsTo l k)) := by rw [HQ.out]; exact HOW.out
        have hb2 : Below w.heap.size w wc := by rw [HQ.out]; exact below_drewN HB.out q
        have hcell2 := (HT.out.below hb2).cell
        have d0 : wc.cell? ⟨g, k * 6, none⟩ = some (.string x.id) := by rw [HQ.out]; exact t0
        cases fb
        · have hr2 : wc.ownsRow w.heap.size 9 1 u3 (idsTo l (k + 1)).length (strs (idsTo l (k + 1))) := by
            rw [HFS.out]; simpa using hown2
          have HR := Lib.hid hr2
          have HB2 := Lib.hid hb2
          clear hown2 hb2 hr2 hq
          go_wp2
          go_roundw
          case rel => exact ⟨k + 1, by go_num, by omega, HR.out, HB2.out⟩
          case measure => simp [intOf]; omega
        · obtain ⟨v', w', hrun, hrow', hbel⟩ := text_push w.heap.size wc _ _ _ x.id hown2 hb2.size (by omega)
          have hr2 : w'.ownsRow w.heap.size 9 1 v' (idsTo l (k + 1)).length (strs (idsTo l (k + 1))) := by
            rw [HFS.out, if_pos rfl, strs_snoc, List.length_append]; exact hrow'
          have HR := Lib.hid hr2
          have HB2 := Lib.hid (hbel w hb2)
          clear hown2 hb2 hr2 hq hrow' hbel
          go_wp2_with (at_builtin; refine Lib.wpList_append_run _ rfl (.tmp 36) (.tmp 45) _ _ rfl _ _ rfl rfl _ _ hrun ?_)
          go_roundw
          case rel => exact ⟨k + 1, by go_num, by omega, HR.out, HB2.out⟩
          case measure => simp [intOf]; omega
    · have HF : Hid (Idd w l (.returned u3) wr) := by
        have : k = n := by omega
        rw [this, ← HNL.out] at hown
        exact ⟨_, rfl, hown, hb⟩
      clear hown hb
      go_wp2
      go_ret
      exact HF.out
end Go.Proofs.Ytgigihlmpdpggaa
