import Derived.Test.YtgigihlmpdpggaaLkJ
namespace Go.Proofs.Ytgigihlmpdpggaa
open Go.RowKit
def addOne (L : List (List It)) (y : It) : List (List It) := L.modify (slot y.id) (ins y)
/-- What 'Add' leaves of a table. -/
def Added (w : World) (b : Nat) (V : List Value) (L' : List (List It)) (e : Ending) (w' : World) : Prop :=
  e = .returned (.int .i64 0) ∧ ∃ V', Tab w' b V' L' ∧ But (Own b V) w w' ∧ ∀ g, Own b V' g → Own b V g ∨ w.heap.size ≤ g
theorem ins_length (y : It) (l : List It) : (ins y l).length ≤ l.length + 1 := by
  unfold ins
  split
  · omega
  · have := pos_le y l
    simp; omega
theorem addOne_get (L : List (List It)) (y : It) (i : Nat) (xs : List It) (h : (addOne L y)[i]? = some xs) : (i = slot y.id ∧ ∃ zs, L[i]? = some zs ∧ xs = ins y zs) ∨ (i ≠ slot y.id ∧ L[i]? = some xs) := by
  unfold addOne at h
  rw [List.getElem?_modify] at h
  cases hz : L[i]? with
  | none => rw [hz] at h; cases h
  | some zs =>
    rw [hz] at h
    have h' : (if slot y.id = i then ins y zs else zs) = xs := Option.some.inj h
    by_cases e : slot y.id = i
    · rw [if_pos e] at h'; exact .inl ⟨e.symm, zs, rfl, h'.symm⟩
    · rw [if_neg e] at h'; exact .inr ⟨Ne.symm e, by rw [h']⟩
theorem addAll_inv (zs : List It) : ∀ (L : List (List It)) (N : Nat), (∀ (i : Nat) (xs : List It), L[i]? = some xs → Rising xs ∧ xs.length ≤ N) →
    ∀ (i : Nat) (xs : List It), (zs.foldl addOne L)[i]? = some xs → Rising xs ∧ xs.length ≤ N + zs.length := by
  induction zs with
  | nil => intro L N h i xs hx; simpa using h i xs hx
  | cons z zs ih =>
    intro L N h i xs hx
    have := ih (addOne L z) (N + 1) (fun j ys hy => by
      rcases addOne_get L z j ys hy with ⟨_, us, hu, rfl⟩ | ⟨_, hu⟩
      · have h1 := h j us hu
        have := ins_length z us
        exact ⟨ins_rising z us h1.1, by omega⟩
      · have h1 := h j ys hu
        exact ⟨h1.1, by omega⟩) i xs hx
    simp only [List.length_cons]
    exact ⟨this.1, by omega⟩
theorem addOne_set {L : List (List It)} {y : It} {xs : List It} (h : L[slot y.id]? = some xs) : addOne L y = L.set (slot y.id) (ins y xs) := by
  unfold addOne
  apply List.ext_getElem?
  intro j
  rw [List.getElem?_modify, List.getElem?_set]
  by_cases e : slot y.id = j
  · subst e
    obtain ⟨h1, h2⟩ := List.getElem?_eq_some_iff.1 h
    simp [h1, h2]
  · simp [e]
theorem CellsAt.block {w w' : World} {g o : Nat} {x : It} (h : CellsAt w g o x) (hk : w'.heap[g]? = w.heap[g]?) : CellsAt w' g o x :=
  ⟨(World.cell?_of_block (a := ⟨g, _, none⟩) hk).trans h.c0, (World.cell?_of_block (a := ⟨g, _, none⟩) hk).trans h.c1, (World.cell?_of_block (a := ⟨g, _, none⟩) hk).trans h.c2, (World.cell?_of_block (a := ⟨g, _, none⟩) hk).trans h.c3, (World.cell?_of_block (a := ⟨g, _, none⟩) hk).trans h.c4, (World.cell?_of_block (a := ⟨g, _, none⟩) hk).trans h.c5⟩
theorem set_same {α : Type} {l : List α} {i : Nat} {x : α} (h : l[i]? = some x) : l.set i x = l := by
  apply List.ext_getElem?
  intro j
  rw [List.getElem?_set]
  by_cases e : i = j
  · subst e
    obtain ⟨h1, h2⟩ := List.getElem?_eq_some_iff.1 h
    simp [h1, h2]
  · simp [e]
theorem own_set {b i B n : Nat} {V V' : List Value} {v v' : Value} (hown : ∀ g, Own b V' g → Own b V g ∨ B ≤ g) (hv : V'[i]? = some v)
    (hat : v'.ownBlock = v.ownBlock ∨ ∃ k, v'.ownBlock = some k ∧ n ≤ k) (hn : B ≤ n) : ∀ g, Own b (V'.set i v') g → Own b V g ∨ B ≤ g := by
  rintro g (rfl | ⟨j, u, hu, ho⟩)
  · exact .inl (Or.inl rfl)
  · rw [List.getElem?_set] at hu
    by_cases e : i = j
    · subst e
      rw [if_pos rfl] at hu
      split at hu <;> cases hu
      rcases hat with h | ⟨k, h, hk⟩
      · exact hown g (Or.inr ⟨i, v, hv, by rw [← h]; exact ho⟩)
      · rw [h] at ho
        cases ho
        exact .inr (by omega)
    · rw [if_neg e] at hu
      exact hown g (Or.inr ⟨j, u, hu, ho⟩)
/-- What the world of a round holds: the list's slice, and the item. -/
theorem seven_new {wr w1 : World} {b i n : Nat} {v : Value} {y : It} (hbs : b < wr.heap.size) (hc : wr.cell? ⟨b, i, none⟩ = some v)
    (h1 : w1 = (wr.alloc (.cells #[.string y.id, .string y.pack, .int .i64 y.kind, .int .i64 y.off, .int .i64 y.long, .int .i64 y.size] 32)).drewN n) :
    w1.cell? ⟨b, i, none⟩ = some v ∧ w1.cell? ⟨wr.heap.size, 0, none⟩ = some (.string y.id) ∧ w1.cell? ⟨wr.heap.size, 1, none⟩ = some (.string y.pack) ∧ w1.cell? ⟨wr.heap.size, 2, none⟩ = some (.int .i64 y.kind) ∧ w1.cell? ⟨wr.heap.size, 3, none⟩ = some (.int .i64 y.off) ∧ w1.cell? ⟨wr.heap.size, 4, none⟩ = some (.int .i64 y.long) ∧ w1.cell? ⟨wr.heap.size, 5, none⟩ = some (.int .i64 y.size) := by
  obtain ⟨d0, d1, d2, d3, d4, d5⟩ := CellsAt.new wr y
  subst h1
  exact ⟨(World.cell?_alloc_past _ _ _ hbs).trans hc, d0, d1, d2, d3, d4, d5⟩
theorem seven_next {w1 w4 : World} {b i p : Nat} {v : Value} {y : It} (hbs : b < w1.heap.size) (hps : p < w1.heap.size) (hb4 : Below w1.heap.size w1 w4)
    (g0 : w1.cell? ⟨b, i, none⟩ = some v) (g1 : w1.cell? ⟨p, 0, none⟩ = some (.string y.id)) (g2 : w1.cell? ⟨p, 1, none⟩ = some (.string y.pack)) (g3 : w1.cell? ⟨p, 2, none⟩ = some (.int .i64 y.kind)) (g4 : w1.cell? ⟨p, 3, none⟩ = some (.int .i64 y.off)) (g5 : w1.cell? ⟨p, 4, none⟩ = some (.int .i64 y.long)) (g6 : w1.cell? ⟨p, 5, none⟩ = some (.int .i64 y.size)) :
    w4.cell? ⟨b, i, none⟩ = some v ∧ w4.cell? ⟨p, 0, none⟩ = some (.string y.id) ∧ w4.cell? ⟨p, 1, none⟩ = some (.string y.pack) ∧ w4.cell? ⟨p, 2, none⟩ = some (.int .i64 y.kind) ∧ w4.cell? ⟨p, 3, none⟩ = some (.int .i64 y.off) ∧ w4.cell? ⟨p, 4, none⟩ = some (.int .i64 y.long) ∧ w4.cell? ⟨p, 5, none⟩ = some (.int .i64 y.size) :=
  ⟨(hb4.cell (p := ⟨b, i, none⟩) hbs).trans g0, (hb4.cell (p := ⟨_, 0, none⟩) hps).trans g1, (hb4.cell (p := ⟨_, 1, none⟩) hps).trans g2, (hb4.cell (p := ⟨_, 2, none⟩) hps).trans g3, (hb4.cell (p := ⟨_, 3, none⟩) hps).trans g4, (hb4.cell (p := ⟨_, 4, none⟩) hps).trans g5, (hb4.cell (p := ⟨_, 5, none⟩) hps).trans g6⟩
set_option maxHeartbeats 2000000 in
set_option maxRecDepth 100000 in
theorem add_any (b h c : Nat) (V : List Value) (L : List (List It)) (ys : List It) (w : World) (hn : ys.length ≤ 4096) (ht : Tab w b V L)
    (hrise : ∀ (i : Nat) (xs : List It), L[i]? = some xs → Rising xs) (hlen : ∀ (i : Nat) (xs : List It), L[i]? = some xs → xs.length + ys.length ≤ 65536)
    (hh : h < w.heap.size) (hnot : ¬ Own b V h) (hc : ∀ i x, ys[i]? = some x → CellsAt w h (i * 6) x) (hok : ∀ x ∈ ys, x.ok = true) :
    Calls Try.prog 7 #[.pointer (some ⟨b, 0, none⟩), .slice (some ⟨h, 0, none⟩) ys.length c] w (Added w b V (ys.foldl addOne L)) := by
  go_enter Try.func7, Try.ntmps7
  go_wp2
  go_loopw [15] (fun i wr => ∃ k : Nat, i = .int .i64 k ∧ k ≤ ys.length ∧ Below w.heap.size w wr) (fun i _ => ys.length - (intOf i).toNat)
  case atStart => exact ⟨0, rfl, Nat.zero_le _, Below.refl _ _⟩
  case round =>
    obtain ⟨k, rfl, hk, hb⟩ := hrel
    by_cases hlt : k < ys.length
    · obtain ⟨x, hx⟩ : ∃ x, ys[k]? = some x := ⟨_, List.getElem?_eq_getElem hlt⟩
      obtain ⟨e0, e1, e2, e3, e4, e5⟩ := (hc k x hx).below hb hh
      have HC := fun W => check_ok x W (hok x (List.mem_of_getElem? hx))
      have HC' := fun W => Lib.hid (HC W)
      have HB := Lib.hid hb
      clear hc hok hrise hlen hb hx HC
      go_wp2_with fail
      refine Calls.mono (HC' _).out ?_
      rintro e w1 ⟨rfl, hb1⟩
      have HB1 := Lib.hid hb1
      clear hb1 HC'
      go_wp2
      go_roundw
      case rel => exact ⟨k + 1, by go_num, by omega, (HB.out.alloc HB.out.size _).trans (HB1.out.mono (by have := HB.out.size; simp; omega))⟩
      case measure => simp [intOf]; omega
    · have hbe := hb
      have HB := Lib.hid hb
      have HT := Lib.hid ht
      have HR := Lib.hid hrise
      have HL := Lib.hid hlen
      have HC := Lib.hid hc
      clear hb hbe hc hok hrise hlen ht
      go_wp2
      go_loopw [27] (fun i w2 => ∃ (k : Nat) (V' : List Value), i = .int .i64 k ∧ k ≤ ys.length ∧ Tab w2 b V' ((ys.take k).foldl addOne L) ∧ But (Own b V) w w2 ∧ ∀ g, Own b V' g → Own b V g ∨ w.heap.size ≤ g) (fun i _ => ys.length - (intOf i).toNat)
      case atStart => exact ⟨0, V, rfl, Nat.zero_le _, by simpa using HT.out.but (S := fun _ => False) (But.of_below HB.out) (fun _ _ h => h), But.of_below HB.out, fun g hg => .inl hg⟩
      case round =>
        obtain ⟨m, V', rfl, hm, ht', hbut, hown⟩ := hrel
        by_cases hlt2 : m < ys.length
        · obtain ⟨y, hy⟩ : ∃ y, ys[m]? = some y := ⟨_, List.getElem?_eq_getElem hlt2⟩
          obtain ⟨Lm, hLm⟩ : ∃ Lm, (ys.take m).foldl addOne L = Lm := ⟨_, rfl⟩
          rw [hLm] at ht'
          have hLm1 : (ys.take (m + 1)).foldl addOne L = addOne Lm y := by
            rw [List.take_add_one, hy, ← hLm]; simp [List.foldl_append]
          have hinv : ∀ (i : Nat) (xs : List It), Lm[i]? = some xs → Rising xs ∧ xs.length ≤ 65536 := by
            intro i xs hx
            rw [← hLm] at hx
            have := addAll_inv (ys.take m) L (65536 - ys.length) (fun j zs hz => ⟨HR.out j zs hz, by have := HL.out j zs hz; omega⟩) i xs hx
            have hl : (ys.take m).length ≤ ys.length := by simp; omega
            exact ⟨this.1, by omega⟩
          obtain ⟨i, hi⟩ : ∃ i, slot y.id = i := ⟨_, rfl⟩
          have hi2 : i < 256 := by rw [← hi]; exact slot_lt _
          obtain ⟨v, hv⟩ : ∃ v, V'[i]? = some v := ⟨_, List.getElem?_eq_getElem (by rw [ht'.lenV]; exact hi2)⟩
          obtain ⟨xs, hx⟩ : ∃ xs, Lm[i]? = some xs := ⟨_, List.getElem?_eq_getElem (by rw [ht'.lenL]; exact hi2)⟩
          obtain ⟨hrx, hlx⟩ := hinv i xs hx
          have hrow := ht'.row i v xs hv hx
          have hbs : b < wr.heap.size := ht'.lt
          have hcell := ht'.cell hv
          have hfro := ht'.frozen i
          obtain ⟨e0, e1, e2, e3, e4, e5⟩ := (HC.out m y hy).block (hbut.block h hh hnot)
          have hhs : h < wr.heap.size := Nat.lt_of_lt_of_le hh hbut.size
          have HLi := fun W => Lib.hid (list_any b y.id W)
          rw [hi] at HLi
          have HT' := Lib.hid ht'
          have HBUT := Lib.hid hbut
          have HOWN := Lib.hid hown
          have HROW := Lib.hid hrow
          have HLM1 := Lib.hid hLm1
          have HV := Lib.hid hv
          have HX := Lib.hid hx
          have HI := Lib.hid hi
          have HRX := Lib.hid hrx
          clear ht' hbut hown hrow hLm hLm1 hinv hv hx hi hrx hy
          go_wp2_with fail
          refine Calls.mono (HLi _).out ?_
          rintro e w1 ⟨rfl, n1, hw1⟩
          clear HLi
          obtain ⟨g0, g1, g2, g3, g4, g5, g6⟩ := seven_new hbs hcell hw1
          have hb3 : Below wr.heap.size wr w1 := by rw [hw1]; exact below_drewN ((Below.refl _ _).alloc (Nat.le_refl _) _) _
          have hsz1 : wr.heap.size < w1.heap.size := by rw [hw1]; simp
          have hbs1 : b < w1.heap.size := by omega
          have HB3 := Lib.hid hb3
          clear hw1 hb3 hcell hfro e0 e1 e2 e3 e4 e5
          obtain ⟨fb, hfb⟩ : ∃ fb, ((xs[pos y xs]?).any fun x => x.ord y == 0) = fb := ⟨_, rfl⟩
          have HBS := fun W hW => bs_row v xs y W hlx hW HRX.out
          rw [hfb] at HBS
          have HBS' := fun W hW => Lib.hid (HBS W hW)
          have HFB := Lib.hid hfb
          have HROW1 : Hid (Row w1 v xs) := row_block HROW.out (fun g hg => HB3.out.block g (row_lt HROW.out hg))
          clear HBS hfb
          go_wp2
          go_region_held3 (fun w' => w'.cell? ⟨b, i, none⟩ = some v ∧ w'.cell? ⟨wr.heap.size, 0, none⟩ = some (.string y.id) ∧ w'.cell? ⟨wr.heap.size, 1, none⟩ = some (.string y.pack) ∧ w'.cell? ⟨wr.heap.size, 2, none⟩ = some (.int .i64 y.kind) ∧ w'.cell? ⟨wr.heap.size, 3, none⟩ = some (.int .i64 y.off) ∧ w'.cell? ⟨wr.heap.size, 4, none⟩ = some (.int .i64 y.long) ∧ w'.cell? ⟨wr.heap.size, 5, none⟩ = some (.int .i64 y.size))
            (first | exact ⟨g0, g1, g2, g3, g4, g5, g6⟩ | exact seven_next (w1 := w1.drew) hbs1 hsz1 hb4 g0 g1 g2 g3 g4 g5 g6) (first | (go_at_call 24; refine Calls.mono (HBS' w1.drew HROW1.out).out ?_; rintro e w4 ⟨rfl, hb4⟩))
          rename_i w4 hb4 hS
          obtain ⟨f0, f1, f2, f3, f4, f5, f6⟩ := hS
          have hb5 : Below wr.heap.size wr w4 := HB3.out.trans ((Below.refl _ _).drew.trans (hb4.mono (by show _ ≤ w1.heap.size; omega)))
          have hsz4 : wr.heap.size < w4.heap.size := Nat.lt_of_lt_of_le hsz1 hb4.size
          have hbs4 : b < w4.heap.size := by omega
          have HB5 := Lib.hid hb5
          clear hb5 hb4 g0 g1 g2 g3 g4 g5 g6 HBS' HROW1 HB3
          cases fb
          · have HINS : Hid (addOne Lm y = Lm.set i (xs.take (pos y xs) ++ y :: xs.drop (pos y xs))) := by
              have h1 : ins y xs = xs.take (pos y xs) ++ y :: xs.drop (pos y xs) := by unfold ins; rw [HFB.out]; rfl
              rw [addOne_set (xs := xs) (by rw [HI.out]; exact HX.out), HI.out, h1]; rfl
            have HT4 : Hid (Tab w4 b V' Lm) := HT'.out.but (S := fun _ => False) (But.of_below HB5.out) (fun _ _ h => h)
            have HROW4 : Hid (Row w4 v xs) := HT4.out.row i v xs HV.out HX.out
            have HNE : Hid (v.ownBlock ≠ some w4.heap.size) := fun e => by have := row_lt HROW4.out e; omega
            have hpos := pos_le y xs
            go_wp2
            refine Kit.wp_region_heads (fun w' => w'.cell? ⟨b, i, none⟩ = some v ∧ w'.cell? ⟨wr.heap.size, 0, none⟩ = some (.string y.id) ∧ w'.cell? ⟨wr.heap.size, 1, none⟩ = some (.string y.pack) ∧ w'.cell? ⟨wr.heap.size, 2, none⟩ = some (.int .i64 y.kind) ∧ w'.cell? ⟨wr.heap.size, 3, none⟩ = some (.int .i64 y.off) ∧ w'.cell? ⟨wr.heap.size, 4, none⟩ = some (.int .i64 y.long) ∧ w'.cell? ⟨wr.heap.size, 5, none⟩ = some (.int .i64 y.size))
              6 8 (by kernel_rfl) (by kernel_rfl) ⟨f0, f1, f2, f3, f4, f5, f6⟩ (fun d v c a w h => by cases d <;> exact h) ?_
            simp only [List.take_succ_cons, List.take_zero, List.drop_succ_cons, List.drop_zero, Nat.reduceSub]
            iterate 6 (refine Kit.wpHold_val ?_ rfl (fun W hW => ?_) ?_; rotate_left; focus (obtain ⟨q0, q1, q2, q3, q4, q5, q6⟩ := hW; go_simp; rfl))
            refine Kit.wpHold_nil ?_
            simp only [Act.put, List.setIfInBounds_toArray, List.set_cons_succ, List.set_cons_zero]
            obtain ⟨W5, hW5⟩ : ∃ W5, W5 = w4.drew.alloc (.cells y.cells.toArray 32) := ⟨_, rfl⟩
            have hs5 : W5.heap.size = w4.heap.size + 1 := by rw [hW5]; simp
            have hb45 : Below w4.heap.size w4 W5 := by rw [hW5]; exact (Below.refl _ _).drew.alloc (Nat.le_refl _) _
            have hq5 : W5.heap[w4.heap.size]? = some (.cells y.cells.toArray 32 (0, 0)) := by rw [hW5]; exact heap_alloc_new w4.drew _
            have HT5 : Hid (Tab W5 b V' Lm) := HT4.out.but (S := fun _ => False) (But.of_below hb45) (fun _ _ h => h)
            have HROW5 : Hid (Row W5 v xs) := HT5.out.row i v xs HV.out HX.out
            have HINS5 := Lib.hid (insert_any v (pos y xs) xs y w4.heap.size 1 W5 hlx HROW5.out hpos HNE.out hq5)
            have HS5 := Lib.hid (seven_next hbs4 hsz4 hb45 f0 f1 f2 f3 f4 f5 f6)
            have HB45 := Lib.hid hb45
            refine Kit.wpThen_one rfl (fun K hK => ?_)
            go_simp
            rw [show ((w4.alloc (Obj.cells #[Value.string y.id, Value.string y.pack, Value.int IntKind.i64 y.kind, Value.int IntKind.i64 y.off, Value.int IntKind.i64 y.long, Value.int IntKind.i64 y.size] 32)).drew) = W5 from hW5.symm]
            refine hK _ _ HS5.out ?_
            clear hK K
            clear hW5 hb45 hq5 f0 f1 f2 f3 f4 f5 f6
            refine Kit.wpThen_one rfl (fun K hK => ?_)
            go_simp
            refine Calls.mono HINS5.out ?_
            rintro e w6 ⟨v', rfl, hrow6, hg6, hat6⟩
            have hgb : v.ownBlock ≠ some b := row_ne HROW5.out HT5.out.blk
            have hgp : v.ownBlock ≠ some wr.heap.size := fun e => by have := row_lt HROW.out e; omega
            have hb5 : b < W5.heap.size := by rw [hs5]; omega
            have hp5 : wr.heap.size < W5.heap.size := by rw [hs5]; omega
            have hblk : ∀ g, v.ownBlock ≠ some g → g < W5.heap.size → w6.heap[g]? = W5.heap[g]? := fun g hne hlt => hg6.block g hlt (Ne.symm hne)
            have HS6 : Hid (w6.cell? ⟨b, i, none⟩ = some v ∧ w6.cell? ⟨wr.heap.size, 0, none⟩ = some (.string y.id) ∧ w6.cell? ⟨wr.heap.size, 1, none⟩ = some (.string y.pack) ∧ w6.cell? ⟨wr.heap.size, 2, none⟩ = some (.int .i64 y.kind) ∧ w6.cell? ⟨wr.heap.size, 3, none⟩ = some (.int .i64 y.off) ∧ w6.cell? ⟨wr.heap.size, 4, none⟩ = some (.int .i64 y.long) ∧ w6.cell? ⟨wr.heap.size, 5, none⟩ = some (.int .i64 y.size)) := by
              obtain ⟨q0, q1, q2, q3, q4, q5, q6⟩ := HS5.out
              have k1 := hblk b hgb hb5
              have k2 := hblk _ hgp hp5
              exact ⟨(World.cell?_of_block (a := ⟨b, i, none⟩) k1).trans q0, (World.cell?_of_block (a := ⟨_, 0, none⟩) k2).trans q1, (World.cell?_of_block (a := ⟨_, 1, none⟩) k2).trans q2, (World.cell?_of_block (a := ⟨_, 2, none⟩) k2).trans q3, (World.cell?_of_block (a := ⟨_, 3, none⟩) k2).trans q4, (World.cell?_of_block (a := ⟨_, 4, none⟩) k2).trans q5, (World.cell?_of_block (a := ⟨_, 5, none⟩) k2).trans q6⟩
            have hcell6 : w6.cell? ⟨b, i, none⟩ = some v := HS6.out.1
            have hfro6 : w6.frozen? ⟨b, i, none⟩ = false := (World.frozen?_of_block (a := ⟨b, i, none⟩) (hblk b hgb hb5)).trans (HT5.out.frozen i)
            have HSET := Lib.hid (HT5.out.set_ HV.out HX.out hrow6 hg6 hat6)
            have HAT := Lib.hid hat6
            obtain ⟨A', n', c', rfl⟩ : ∃ A n c, v' = Value.slice A n c := by
              rcases hrow6.2 with ⟨rfl, _⟩ | ⟨_, _, _, rfl, _⟩ <;> exact ⟨_, _, _, rfl⟩
            refine hK _ _ HS6.out ?_
            clear hK K hrow6 hg6 hat6 hblk
            refine Kit.wpThen_zero ?_
            go_wp2
            go_roundw
            case rel =>
              refine ⟨m + 1, V'.set i (.slice A' n' c'), by go_num, by omega, ?_, ?_, ?_⟩
              · rw [HLM1.out, HINS.out]; exact HSET.out.1
              · exact ((HBUT.out.trans (But.of_below HB5.out)).trans (But.of_below HB45.out)).then_ HSET.out.2 fun k hk hT => (HOWN.out k hT).resolve_right (by omega)
              · exact own_set HOWN.out HV.out HAT.out (by have := HBUT.out.size; omega)
            case measure => simp [intOf]; omega
          · have HINS : Hid (addOne Lm y = Lm) := by
              have h1 : ins y xs = xs := by unfold ins; rw [HFB.out]; rfl
              rw [addOne_set (xs := xs) (by rw [HI.out]; exact HX.out), HI.out, h1]
              exact set_same HX.out
            have HT4 : Hid (Tab w4 b V' Lm) := HT'.out.but (S := fun _ => False) (But.of_below HB5.out) (fun _ _ h => h)
            go_wp2
            go_roundw
            case rel => exact ⟨m + 1, V', by go_num, by omega, by rw [HLM1.out, HINS.out]; exact HT4.out, HBUT.out.trans (But.of_below HB5.out), HOWN.out⟩
            case measure => simp [intOf]; omega
        · have hfin : Added w b V (ys.foldl addOne L) (.returned (.int .i64 0)) wr := by
            have e : ys.take m = ys := List.take_of_length_le (by omega)
            rw [e] at ht'
            exact ⟨rfl, V', ht', hbut, hown⟩
          clear ht' hbut hown
          go_wp2
          go_ret
          exact hfin
end Go.Proofs.Ytgigihlmpdpggaa
