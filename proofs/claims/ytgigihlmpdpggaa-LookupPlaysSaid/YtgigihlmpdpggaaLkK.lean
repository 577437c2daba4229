import Derived.Test.YtgigihlmpdpggaaLkI
namespace Go.Proofs.Ytgigihlmpdpggaa
open Go.RowKit
theorem ord_id {x y : It} (h : x.ord y < 0) : cmpS x.id y.id ≤ 0 := by
  rw [ord_eq] at h
  simp only [thenC] at h
  split at h <;> omega
def posS (s : ByteArray) (l : List It) : Nat := (l.takeWhile fun x => decide (cmpS x.id s < 0)).length
theorem posS_le (s : ByteArray) (l : List It) : posS s l ≤ l.length := by
  unfold posS
  exact List.Sublist.length_le (List.takeWhile_sublist _)
theorem posS_lo (s : ByteArray) (l : List It) : ∀ i x, i < posS s l → l[i]? = some x → cmpS x.id s < 0 := by
  induction l with
  | nil => intro i x h; simp [posS] at h
  | cons a l ih =>
    intro i x h hx
    by_cases ha : cmpS a.id s < 0
    · cases i with
      | zero => simp at hx; subst hx; exact ha
      | succ i =>
        refine ih i x ?_ (by simpa using hx)
        simp [posS, ha] at h
        simpa [posS] using h
    · simp [posS, ha] at h
theorem posS_hi (s : ByteArray) (l : List It) (hl : Rising l) : ∀ i x, posS s l ≤ i → l[i]? = some x → 0 ≤ cmpS x.id s := by
  induction l with
  | nil => intro i x _ h; simp at h
  | cons a l ih =>
    intro i x h hx
    obtain ⟨h1, h2⟩ := List.pairwise_cons.1 hl
    by_cases ha : cmpS a.id s < 0
    · cases i with
      | zero => simp [posS, ha] at h
      | succ i =>
        refine ih h2 i x ?_ (by simpa using hx)
        simp [posS, ha] at h
        simpa [posS] using h
    · cases i with
      | zero => simp at hx; subst hx; omega
      | succ i =>
        have hax := ord_id (h1 x (List.mem_of_getElem? (by simpa using hx)))
        have e1 := cmpS_pre.trans a.id x.id s
        have e2 := cmpS_pre.congr a.id x.id s
        omega
/-- The items of an id. -/
def hits (s : ByteArray) (l : List It) : List It := (l.drop (posS s l)).takeWhile fun x => x.id.toList == s.toList
def It.pcells (x : It) : List Value := [.string x.pack, .int .i64 x.kind, .int .i64 x.off, .int .i64 x.long, .int .i64 x.size]
def pflat (xs : List It) : List Value := xs.flatMap It.pcells
theorem bs_str_row (v : Value) (xs : List It) (s : ByteArray) (w : World) (hn : xs.length ≤ 65536) (hv : Row w v xs) (hr : Rising xs) :
    Calls Try.prog 58 #[v, .string s, .func (.func 59) #[] #[]] w fun e w' =>
      e = .returned (.tuple #[.int .i64 (posS s xs), .bool ((xs[posS s xs]?).any fun x => cmpS x.id s == 0)]) ∧ Below w.heap.size w w' := by
  obtain ⟨cap, ⟨rfl, rfl⟩ | ⟨g, rfl, ho, hg, hcap, hm⟩⟩ := hv.form'
  · exact bs_str_nil s w
  · exact bs_str g cap (posS s xs) xs s w hn hg (fun i x hx => hv.at_ ho hx) (posS_le _ _) (posS_lo _ _) (posS_hi _ _ hr)
theorem place_info : (Try.prog.info? 30).map (fun i => (i.zero, i.size, i.bytes)) = some (some (.agg #[.string ByteArray.empty, .int .i64 0, .int .i64 0, .int .i64 0, .int .i64 0]), 5, 48) := by kernel_rfl
/-- What 'Places' comes to. -/
def Placed (w : World) (ys : List It) (e : Ending) (w' : World) : Prop :=
  ∃ v, e = .returned v ∧ w'.ownsRow w.heap.size 30 5 v ys.length (pflat ys) ∧ Below w.heap.size w w'
theorem takeWhile_at {α : Type} (p : α → Bool) (l : List α) (k : Nat) (h : k < (l.takeWhile p).length) : ∃ x, (l.takeWhile p)[k]? = some x ∧ l[k]? = some x ∧ p x = true := by
  induction l generalizing k with
  | nil => simp at h
  | cons a l ih =>
    by_cases ha : p a = true
    · rw [List.takeWhile_cons_of_pos ha] at h ⊢
      cases k with
      | zero => exact ⟨a, by simp, by simp, ha⟩
      | succ k =>
        obtain ⟨x, h1, h2, h3⟩ := ih k (by simpa using h)
        exact ⟨x, by simpa using h1, by simpa using h2, h3⟩
    · rw [List.takeWhile_cons_of_neg ha] at h
      simp at h
theorem takeWhile_stop {α : Type} (p : α → Bool) (l : List α) (x : α) (h : l[(l.takeWhile p).length]? = some x) : p x = false := by
  induction l with
  | nil => simp at h
  | cons a l ih =>
    by_cases ha : p a = true
    · rw [List.takeWhile_cons_of_pos ha] at h
      exact ih (by simpa using h)
    · rw [List.takeWhile_cons_of_neg ha] at h
      simp at h
      subst h
      simpa using ha
theorem takeWhile_le {α : Type} (p : α → Bool) (l : List α) : (l.takeWhile p).length ≤ l.length := List.Sublist.length_le (List.takeWhile_sublist _)
theorem pcells_one (x : It) : ∀ u ∈ x.pcells, u.oneCell' = true := by
  intro u hu
  simp [It.pcells] at hu
  rcases hu with rfl | rfl | rfl | rfl | rfl <;> rfl
theorem pflat_snoc (xs : List It) (x : It) : pflat (xs ++ [x]) = pflat xs ++ x.pcells := by simp [pflat]
theorem pflat_length (xs : List It) : (pflat xs).length = xs.length * 5 := by
  induction xs with
  | nil => rfl
  | cons x l ih => simp only [pflat, List.flatMap_cons, List.length_append, List.length_cons] at *; rw [ih]; simp [It.pcells]; omega
set_option maxHeartbeats 1000000 in
set_option maxRecDepth 100000 in
theorem places_any (b : Nat) (V : List Value) (L : List (List It)) (s : ByteArray) (xs : List It) (w : World) (ht : Tab w b V L) (hx : L[slot s]? = some xs) (hr : Rising xs) (hn : xs.length ≤ 65536) :
    Calls Try.prog 29 #[.pointer (some ⟨b, 0, none⟩), .string s] w (Placed w (hits s xs)) := by
  obtain ⟨p0, hp0, pz0, pz1, pz2⟩ := info_parts place_info
  obtain ⟨i, hi⟩ : ∃ i, slot s = i := ⟨_, rfl⟩
  have HLi := fun W => Lib.hid (list_any b s W)
  rw [hi] at HLi hx
  have hi2 : i < 256 := by rw [← hi]; exact slot_lt _
  obtain ⟨v, hv⟩ : ∃ v, V[i]? = some v := ⟨_, List.getElem?_eq_getElem (by rw [ht.lenV]; exact hi2)⟩
  have hrow := ht.row i v xs hv hx
  have hcell := ht.cell hv
  have HT := Lib.hid ht
  have HROW := Lib.hid hrow
  have HR := Lib.hid hr
  obtain ⟨r, hrr⟩ : ∃ r, posS s xs = r := ⟨_, rfl⟩
  have hbs := fun W hW => bs_str_row v xs s W hn hW hr
  rw [hrr] at hbs
  have HBS := fun W hW => Lib.hid (hbs W hW)
  have hrl : r ≤ xs.length := by rw [← hrr]; exact posS_le _ _
  obtain ⟨ys, hys⟩ : ∃ ys, hits s xs = ys := ⟨_, rfl⟩
  have HYS : Hid ((xs.drop r).takeWhile (fun x => x.id.toList == s.toList) = ys) := by rw [← hys, ← hrr]; rfl
  rw [hys]
  clear ht hi hrow hr hbs hrr hys
  go_enter Try.func29, Try.ntmps29
  go_wp2_with fail
  refine Calls.mono (HLi _).out ?_
  rintro e w1 ⟨rfl, n1, rfl⟩
  clear HLi
  go_wp2_with fail
  refine Calls.mono (HBS _ ?_).out ?_
  · exact HROW.out
  rintro e w2 ⟨rfl, hb2⟩
  have hb2' : Below w.heap.size w w2 := (below_drewN (Below.refl _ _) n1).trans hb2
  have HB2 := Lib.hid hb2'
  clear hb2 hb2' HBS hcell
  generalize ((xs[r]?).any fun x => cmpS x.id s == 0) = fb
  obtain ⟨cap, ⟨rfl, rfl⟩ | ⟨g, rfl, ho, hg, hcap, hm⟩⟩ := HROW.out.form'
  · have hr0 : r = 0 := by simpa using hrl
    subst hr0
    have hys : ys = [] := by rw [← HYS.out]; simp
    subst hys
    go_wp2
    go_loopw [5, 7] (fun o a wr => o = .slice none 0 0 ∧ a = .int .i64 0 ∧ Below w.heap.size w wr) (fun _ _ _ => 0)
    case atStart => exact ⟨rfl, rfl, HB2.out⟩
    case round =>
      obtain ⟨rfl, rfl, hb⟩ := hrel
      have hfin : Placed w [] (.returned (.slice none 0 0)) wr := ⟨_, rfl, World.ownsRow_nil _ _ _ _, hb⟩
      clear hb
      go_wp2
      go_ret
      exact hfin
  · go_wp2
    go_loopw [5, 7] (fun o a wr => ∃ k : Nat, a = .int .i64 ((r + k : Nat) : Int) ∧ k ≤ ys.length ∧ wr.ownsRow w.heap.size 30 5 o k (pflat (ys.take k)) ∧ Below w.heap.size w wr) (fun _ a _ => r + ys.length - (intOf a).toNat)
    case atStart => exact ⟨0, rfl, Nat.zero_le _, by simpa [pflat] using World.ownsRow_nil _ _ _ _, HB2.out⟩
    case round =>
      obtain ⟨k, rfl, hk, hown, hb⟩ := hrel
      have hyl : ys.length ≤ xs.length - r := by rw [← HYS.out]; have := takeWhile_le (fun x : It => x.id.toList == s.toList) (xs.drop r); simpa using this
      by_cases hlt : r + k < xs.length
      · obtain ⟨x, hx1⟩ : ∃ x, xs[r + k]? = some x := ⟨_, List.getElem?_eq_getElem hlt⟩
        obtain ⟨e0, e1, e2, e3, e4, e5⟩ := (HROW.out.at_ ho hx1).below hb hg
        by_cases hky : k < ys.length
        · have htk : (x.id.toList == s.toList) = true ∧ ys[k]? = some x := by
            have := takeWhile_at (fun x : It => x.id.toList == s.toList) (xs.drop r) k (by rw [HYS.out]; exact hky)
            rw [HYS.out] at this
            obtain ⟨z, h1, h2, h3⟩ := this
            rw [List.getElem?_drop, hx1] at h2
            cases h2
            exact ⟨h3, h1⟩
          obtain ⟨htrue, hyk⟩ := htk
          obtain ⟨W5, hW5⟩ : ∃ W5, W5 = wr.alloc (.cells x.pcells.toArray 30) := ⟨_, rfl⟩
          have hs5 : w.heap.size ≤ W5.heap.size := by rw [hW5]; have := hb.size; simp; omega
          have hown5 : W5.ownsRow w.heap.size 30 5 u5 k (pflat (ys.take k)) := by rw [hW5]; exact hown.alloc _
          have hq5 : W5.heap[wr.heap.size]? = some (.cells x.pcells.toArray 30 (0, 0)) := by rw [hW5]; exact heap_alloc_new wr _
          obtain ⟨v', w', hrun, hrow', hgrow, _, hat⟩ := run_append_own_at (P := Try.prog) W5 w.heap.size 69 69 30 p0 _ 5 48 Try.underlying69 hp0 pz0 pz1 pz2 rfl (by omega) u5 k (pflat (ys.take k)) hown5 ⟨wr.heap.size, 0, none⟩ 1 1 x.pcells rfl
            (fun j u hu => by rw [add_zero', cell_of_row W5 _ j _ _ (0, 0) hq5]; simpa using hu) (pcells_one x) (by unfold maxLen; omega) (by omega) hs5
          have hb5 : Below w.heap.size w W5 := by rw [hW5]; exact hb.alloc hb.size _
          have hb' : Below w.heap.size w w' := hb5.grown hgrow hs5 (fun g' hg' => (hown5.lt g' hg').1)
          have hrow2 : w'.ownsRow w.heap.size 30 5 v' (k + 1) (pflat (ys.take (k + 1))) := by
            rw [List.take_add_one, hyk]
            simpa [pflat_snoc] using hrow'
          rw [hW5] at hrun
          have HB' := Lib.hid hb'
          have HROW' := Lib.hid hrow2
          clear hx1 hown hb hyk hW5 hs5 hown5 hq5 hrow' hgrow hat hb5 hb' hrow2
          go_wp2_with (at_builtin; refine Lib.wpList_append_run _ rfl (.tmp 35) (.tmp 41) _ _ rfl _ _ rfl rfl _ _ hrun ?_)
          go_roundw
          case rel => exact ⟨k + 1, by go_num, by omega, HROW'.out, HB'.out⟩
          case measure => simp [intOf]; omega
        · have hkk : k = ys.length := by omega
          subst hkk
          have hfalse : (x.id.toList == s.toList) = false := by
            refine takeWhile_stop (fun x : It => x.id.toList == s.toList) (xs.drop r) x ?_
            rw [HYS.out, List.getElem?_drop]
            exact hx1
          have HF : Hid (Placed w ys (.returned u5) wr) := ⟨u5, rfl, by simpa using hown, hb⟩
          clear hown hb hx1
          go_wp2
          go_ret
          exact HF.out
      · have hky : k = ys.length := by omega
        subst hky
        have HF : Hid (Placed w ys (.returned u5) wr) := ⟨u5, rfl, by simpa using hown, hb⟩
        have hdec : decide (((r + ys.length : Nat) : Int) < (xs.length : Int)) = false := by simp; omega
        clear hown hb
        go_wp2
        go_ret
        exact HF.out
end Go.Proofs.Ytgigihlmpdpggaa
