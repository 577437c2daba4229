import Derived.Test.YtgigihlmpdpggaaQd
namespace Go.Proofs.Ytgigihlmpdpggaa
open Go.RowKit
/-- The first item that may not be. -/
theorem first_bad (ys : List It) (h : ¬ ∀ x ∈ ys, x.ok = true) : ∃ (j : Nat) (x : It), ys[j]? = some x ∧ x.ok = false ∧ ∀ (i : Nat) (y : It), i < j → ys[i]? = some y → y.ok = true := by
  induction ys with
  | nil => exact absurd (fun x hx => by cases hx) h
  | cons a ys ih =>
    cases ha : a.ok
    · exact ⟨0, a, rfl, ha, fun i y hi => by omega⟩
    · obtain ⟨j, x, h1, h2, h3⟩ := ih (fun hh => h (fun x hx => by
        rcases List.mem_cons.1 hx with rfl | hx
        · exact ha
        · exact hh x hx))
      refine ⟨j + 1, x, by simpa using h1, h2, fun i y hi hy => ?_⟩
      cases i with
      | zero => simp at hy; subst hy; exact ha
      | succ i => exact h3 i y (by omega) (by simpa using hy)
def insAll (l ys : List It) : List It := ys.foldl (fun l y => ins y l) l
theorem insAll_length (ys : List It) : ∀ l, (insAll l ys).length ≤ l.length + ys.length := by
  induction ys with
  | nil => intro l; exact Nat.le_refl _
  | cons y ys ih =>
    intro l
    have h1 := ih (ins y l)
    have h2 := ins_length y l
    simp only [insAll, List.foldl_cons, List.length_cons] at *
    omega
/-- What the document's 'Add' comes to. -/
def RAdded (w : World) (p : Nat) (v : Value) (l' : List It) (code : Int) (e : Ending) (w' : World) : Prop :=
  e = .returned (.int .i64 code) ∧ ∃ v', RTab w' p v' l' ∧ But (· = p) w w' ∧ ∀ g, ROwn p v' g → ROwn p v g ∨ w.heap.size ≤ g
theorem code_ok {x : It} (h : x.ok = true) : codeOf x = 0 := by simp [codeOf, h]
theorem code_bad {x : It} (h : x.ok = false) : codeOf x = 1 := by simp [codeOf, h]
set_option maxHeartbeats 2000000 in
set_option maxRecDepth 100000 in
theorem radd_bad (p c : Nat) (A : Option Addr) (ys : List It) (w : World) (hn : ys.length ≤ 65536) (hA : ItemsAt w A ys) (hbad : ¬ ∀ x ∈ ys, x.ok = true) :
    Calls Try.prog 18 #[.pointer (some ⟨p, 0, none⟩), .slice A ys.length c] w fun e w' => e = .returned (.int .i64 1) ∧ Below w.heap.size w w' := by
  obtain ⟨j, z, hj, hz, hlo⟩ := first_bad ys hbad
  have hjl := (List.getElem?_eq_some_iff.1 hj).1
  have HJ := Lib.hid hj
  have HLO := Lib.hid hlo
  have HA := Lib.hid hA
  have HZ := Lib.hid hz
  obtain ⟨n, hnl⟩ : ∃ n, ys.length = n := ⟨_, rfl⟩
  rw [hnl] at hjl hn ⊢
  have HNL := Lib.hid hnl
  clear hj hz hlo hA hbad hnl
  have HC := fun x W => Lib.hid (rcheck_any x W)
  go_enter Try.func18, Try.ntmps18
  go_wp2
  go_loopw [5] (fun s wr => ∃ k : Nat, s = .int .i64 k ∧ k ≤ j ∧ Below w.heap.size w wr) (fun s _ => j - (intOf s).toNat)
  case atStart => exact ⟨0, rfl, Nat.zero_le _, Below.refl _ _⟩
  case round =>
    obtain ⟨k, rfl, hk, hb⟩ := hrel
    obtain ⟨x, hx⟩ : ∃ x, ys[k]? = some x := ⟨_, List.getElem?_eq_getElem (by rw [HNL.out]; omega)⟩
    obtain ⟨g, o, rfl, hg, hcx⟩ : ∃ g o, A = some ⟨g, o, none⟩ ∧ g < w.heap.size ∧ ∀ i x, ys[i]? = some x → CellsAt w g (o + i * 6) x := by
      rcases HA.out with e | h
      · rw [e] at hx; simp at hx
      · exact h
    obtain ⟨t0, t1, t2, t3, t4, t5⟩ := (hcx k x hx).below hb hg
    have hkn : k < n := by omega
    have HCX := HC x
    by_cases hkj : k = j
    · have hxo : x.ok = false := by rw [hkj, HJ.out] at hx; cases hx; exact HZ.out
      rw [code_bad hxo] at HCX
      have HB := Lib.hid hb
      clear hcx hx hb hxo hkj
      go_wp2_with fail
      refine Calls.mono (HCX _).out ?_
      rintro e w2 ⟨rfl, hb2⟩
      have HB2 := Lib.hid (HB.out.trans (hb2.mono HB.out.size))
      clear hb2
      go_wp2
      go_ret
      exact ⟨rfl, HB2.out⟩
    · have hkj2 : k < j := by omega
      have hxo : x.ok = true := HLO.out k x hkj2 hx
      rw [code_ok hxo] at HCX
      have HB := Lib.hid hb
      clear hcx hx hb hxo hkj
      go_wp2_with fail
      refine Calls.mono (HCX _).out ?_
      rintro e w2 ⟨rfl, hb2⟩
      have HB2 := Lib.hid (HB.out.trans (hb2.mono HB.out.size))
      clear hb2
      go_wp2
      go_roundw
      case rel => exact ⟨k + 1, by go_num, by omega, HB2.out⟩
      case measure => simp [intOf]; omega
set_option maxHeartbeats 2000000 in
set_option maxRecDepth 100000 in
theorem radd_any (p c : Nat) (v : Value) (l : List It) (A : Option Addr) (ys : List It) (w : World) (ht : RTab w p v l) (hn : l.length + ys.length ≤ 65536) (hA : ItemsAt w A ys) (hne : ∀ g o, A = some ⟨g, o, none⟩ → ys ≠ [] → g ≠ p) (hok : ∀ x ∈ ys, x.ok = true) :
    Calls Try.prog 18 #[.pointer (some ⟨p, 0, none⟩), .slice A ys.length c] w (RAdded w p v (insAll l ys) 0) := by
  have HA := Lib.hid hA
  have HT := Lib.hid ht
  have HOK := Lib.hid hok
  have HNE := Lib.hid hne
  obtain ⟨n, hnl⟩ : ∃ n, ys.length = n := ⟨_, rfl⟩
  rw [hnl] at hn ⊢
  have HNL := Lib.hid hnl
  clear hA hok hnl ht hne
  have HC := fun x W => Lib.hid (rcheck_any x W)
  go_enter Try.func18, Try.ntmps18
  go_wp2
  go_loopw [5] (fun s wr => ∃ k : Nat, s = .int .i64 k ∧ k ≤ n ∧ Below w.heap.size w wr) (fun s _ => n - (intOf s).toNat)
  case atStart => exact ⟨0, rfl, Nat.zero_le _, Below.refl _ _⟩
  case round =>
    obtain ⟨k, rfl, hk, hb⟩ := hrel
    by_cases hkn : k < n
    · obtain ⟨x, hx⟩ : ∃ x, ys[k]? = some x := ⟨_, List.getElem?_eq_getElem (by rw [HNL.out]; omega)⟩
      obtain ⟨g, o, rfl, hg, hcx⟩ : ∃ g o, A = some ⟨g, o, none⟩ ∧ g < w.heap.size ∧ ∀ i x, ys[i]? = some x → CellsAt w g (o + i * 6) x := by
        rcases HA.out with e | h
        · rw [e] at hx; simp at hx
        · exact h
      obtain ⟨t0, t1, t2, t3, t4, t5⟩ := (hcx k x hx).below hb hg
      have HCX := HC x
      rw [code_ok (HOK.out x (List.mem_of_getElem? hx))] at HCX
      have HB := Lib.hid hb
      clear hcx hx hb
      go_wp2_with fail
      refine Calls.mono (HCX _).out ?_
      rintro e w2 ⟨rfl, hb2⟩
      have HB2 := Lib.hid (HB.out.trans (hb2.mono HB.out.size))
      clear hb2
      go_wp2
      go_roundw
      case rel => exact ⟨k + 1, by go_num, by omega, HB2.out⟩
      case measure => simp [intOf]; omega
    · have HB := Lib.hid hb
      clear hb
      go_wp2
      go_loopw [7] (fun s w2 => ∃ (k : Nat) (v' : Value), s = .int .i64 k ∧ k ≤ n ∧ RTab w2 p v' (insAll l (ys.take k)) ∧ But (· = p) w w2 ∧ ∀ g, ROwn p v' g → ROwn p v g ∨ w.heap.size ≤ g) (fun s _ => n - (intOf s).toNat)
      case atStart => exact ⟨0, v, rfl, Nat.zero_le _, HT.out.below HB.out, But.of_below HB.out, fun g hg => .inl hg⟩
      case round =>
        obtain ⟨m, v', rfl, hm, ht', hbut, hown⟩ := hrel
        by_cases hmn : m < n
        · obtain ⟨x, hx⟩ : ∃ x, ys[m]? = some x := ⟨_, List.getElem?_eq_getElem (by rw [HNL.out]; omega)⟩
          obtain ⟨g, o, rfl, hg, hcx⟩ : ∃ g o, A = some ⟨g, o, none⟩ ∧ g < w.heap.size ∧ ∀ i x, ys[i]? = some x → CellsAt w g (o + i * 6) x := by
            rcases HA.out with e | h
            · rw [e] at hx; simp at hx
            · exact h
          obtain ⟨t0, t1, t2, t3, t4, t5⟩ := (hcx m x hx).block (hbut.block g hg (HNE.out g o rfl (by intro e; rw [e] at hx; simp at hx)))
          have hl : (insAll l (ys.take m)).length ≤ 65536 := by
            have := insAll_length (ys.take m) l
            have : (ys.take m).length ≤ n := by rw [← HNL.out]; simp; omega
            omega
          have HP := Lib.hid (put_any p v' _ x wr ht' hl)
          have HTK : Hid (insAll l (ys.take (m + 1)) = ins x (insAll l (ys.take m))) := by
            refine Lib.hid ?_
            rw [List.take_add_one, hx]; simp [insAll, List.foldl_append]
          have HBU := Lib.hid hbut
          have HOW := Lib.hid hown
          have HT2 := Lib.hid ht'
          clear hcx hx hbut hown ht'
          go_wp2_with fail
          refine Calls.mono HP.out ?_
          rintro e w3 ⟨rfl, v2, ht3, hbut3, hown3⟩
          have HT3 := Lib.hid ht3
          have HB3 := Lib.hid hbut3
          have HO3 := Lib.hid hown3
          clear ht3 hbut3 hown3 HP
          go_wp2
          go_roundw
          case rel =>
            refine ⟨m + 1, v2, by go_num, by omega, by rw [HTK.out]; exact HT3.out, HBU.out.trans HB3.out, fun g hg => ?_⟩
            rcases HO3.out g hg with h | h
            · exact HOW.out g h
            · have := HBU.out.size; exact .inr (by omega)
          case measure => simp [intOf]; omega
        · have HF : Hid (RAdded w p v (insAll l ys) 0 (.returned (.int .i64 0)) wr) := by
            refine ⟨rfl, v', ?_, hbut, hown⟩
            rw [List.take_of_length_le (by rw [HNL.out]; omega)] at ht'
            exact ht'
          clear ht' hbut hown
          go_wp2
          go_ret
          exact HF.out
end Go.Proofs.Ytgigihlmpdpggaa
