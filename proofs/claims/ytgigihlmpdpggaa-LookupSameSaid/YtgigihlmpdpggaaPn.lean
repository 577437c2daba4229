import Derived.Test.YtgigihlmpdpggaaPm
import Derived.Deep.RegionHeld3
import Derived.Deep.DeepCutAuto
import Derived.BigRegion
namespace Go.Proofs.Ytgigihlmpdpggaa
open Go.RowKit
/-- What 'Add' does to the first of two tables. -/
def AddedB (B : Nat) (w0 W : World) (a b : Nat) (Va Vb : List Value) (La Lb : List (List It)) (e : Ending) (w' : World) : Prop :=
  e = .returned (.int .i64 0) ∧ ∃ Va', Two B w0 w' a b Va' Vb La Lb ∧ But (Own a Va) W w' ∧ ∀ g, Own a Va' g → Own a Va g ∨ W.heap.size ≤ g
theorem add_new (B : Nat) (w0 W : World) (a b : Nat) (Va Vb : List Value) (zs ys : List It) (Lb : List (List It)) (ht : Two B w0 W a b Va Vb (tabOf zs) Lb) (hn : zs.length + ys.length ≤ 4096) (hok : ∀ x ∈ ys, x.ok = true) :
    Calls Try.prog 7 #[.pointer (some ⟨a, 0, none⟩), .slice (some ⟨W.heap.size, 0, none⟩) ys.length ys.length] (W.alloc (.cells (flat ys).toArray 32)) (AddedB B w0 W a b Va Vb (tabOf (zs ++ ys)) Lb) := by
  have hbl : Below W.heap.size W (W.alloc (.cells (flat ys).toArray 32)) := (Below.refl _ _).alloc (Nat.le_refl _) _
  have ht2 := ht.below hbl
  have hb := heap_alloc_new W (.cells (flat ys).toArray 32)
  refine (add_any a W.heap.size ys.length Va (tabOf zs) ys _ (by omega) ht2.ta (fun i xs hx => (tabOf_fine zs).rise i xs hx) ?_ (by simp) (fun h => by have := ht.ta.own_lt h; omega) ?_ hok).mono ?_
  · intro i xs hx
    have := tabOf_len zs xs (List.mem_of_getElem? hx)
    omega
  · intro i x hx
    have hc : ∀ m (hm : m < 6) u, x.cells[m]? = some u → (W.alloc (.cells (flat ys).toArray 32)).cell? ⟨W.heap.size, i * 6 + m, none⟩ = some u := fun m hm u hu => by
      rw [cell_of_row _ _ _ _ _ (0, 0) hb]
      have := flat_get ys i m x hx hm
      simpa [hu] using this
    exact ⟨hc 0 (by omega) _ rfl, hc 1 (by omega) _ rfl, hc 2 (by omega) _ rfl, hc 3 (by omega) _ rfl, hc 4 (by omega) _ rfl, hc 5 (by omega) _ rfl⟩
  · rintro e w' ⟨rfl, V', h1, h2, h3⟩
    refine ⟨rfl, V', by rw [← tabOf_append]; exact ht2.setA h1 h2 h3, (But.of_below hbl).trans h2, fun g hg => ?_⟩
    rcases h3 g hg with h | h
    · exact .inl h
    · simp at h; exact .inr (by omega)
theorem add_one (B : Nat) (w0 W : World) (a b : Nat) (Va Vb : List Value) (zs : List It) (x : It) (Lb : List (List It)) (ht : Two B w0 W a b Va Vb (tabOf zs) Lb) (hn : zs.length + 1 ≤ 4096) (hok : x.ok = true) :
    Calls Try.prog 7 #[.pointer (some ⟨a, 0, none⟩), .slice (some ⟨W.heap.size, 0, none⟩) 1 1] (W.alloc (.cells #[.string x.id, .string x.pack, .int .i64 x.kind, .int .i64 x.off, .int .i64 x.long, .int .i64 x.size] 32)) (AddedB B w0 W a b Va Vb (tabOf (zs ++ [x])) Lb) :=
  add_new B w0 W a b Va Vb zs [x] Lb ht hn (by simpa using hok)
theorem add_two (B : Nat) (w0 W : World) (a b : Nat) (Va Vb : List Value) (zs : List It) (x y : It) (La : List (List It)) (ht : Two B w0 W a b Va Vb La (tabOf zs)) (hn : zs.length + 2 ≤ 4096) (hx : x.ok = true) (hy : y.ok = true) :
    Calls Try.prog 7 #[.pointer (some ⟨b, 0, none⟩), .slice (some ⟨W.heap.size, 0, none⟩) 2 2] (W.alloc (.cells #[.string x.id, .string x.pack, .int .i64 x.kind, .int .i64 x.off, .int .i64 x.long, .int .i64 x.size, .string y.id, .string y.pack, .int .i64 y.kind, .int .i64 y.off, .int .i64 y.long, .int .i64 y.size] 32)) (AddedB B w0 W b a Vb Va (tabOf (zs ++ [x, y])) La) :=
  add_new B w0 W b a Vb Va zs [x, y] La ht.swap hn (by simp [hx, hy])
/-- The argument's rows of three numbers. -/
def itOf (t : Int × Int × Int) : It := itemOf t.1 t.2.1 t.2.2
def TripAt (w : World) (g o : Nat) (t : Int × Int × Int) : Prop := w.cell? ⟨g, o, none⟩ = some (.int .i64 t.1) ∧ w.cell? ⟨g, o + 1, none⟩ = some (.int .i64 t.2.1) ∧ w.cell? ⟨g, o + 2, none⟩ = some (.int .i64 t.2.2)
def Trips (w : World) (A : Option Addr) (zs : List (Int × Int × Int)) : Prop := zs = [] ∨ ∃ g o, A = some ⟨g, o, none⟩ ∧ g < w.heap.size ∧ ∀ i t, zs[i]? = some t → TripAt w g (o + i * 3) t
theorem Trips.take {w : World} {A : Option Addr} {zs : List (Int × Int × Int)} (h : Trips w A zs) (n : Nat) : Trips w A (zs.take n) := by
  rcases h with rfl | ⟨g, o, h1, h2, h3⟩
  · exact .inl (by simp)
  · refine .inr ⟨g, o, h1, h2, fun i t ht => h3 i t ?_⟩
    rw [List.getElem?_take] at ht
    split at ht
    · exact ht
    · cases ht
theorem trips_new (wr W : World) (t u : Int × Int × Int) (hW : W = ((wr.alloc (.cells #[.int .i64 t.1, .int .i64 t.2.1, .int .i64 t.2.2] 26)).alloc (.cells #[.int .i64 u.1, .int .i64 u.2.1, .int .i64 u.2.2] 26)).drew) :
    TripAt W wr.heap.size 0 t ∧ TripAt W (wr.heap.size + 1) 0 u ∧ Below wr.heap.size wr W ∧ W.heap.size = wr.heap.size + 2 := by
  have h1 : W.heap[wr.heap.size]? = some (.cells #[.int .i64 t.1, .int .i64 t.2.1, .int .i64 t.2.2] 26 (0, 0)) := by
    rw [hW]
    show ((wr.alloc _).alloc _).heap[wr.heap.size]? = _
    rw [Below.heap_alloc _ _ _ (by simp)]; exact heap_alloc_new wr _
  have h2 : W.heap[wr.heap.size + 1]? = some (.cells #[.int .i64 u.1, .int .i64 u.2.1, .int .i64 u.2.2] 26 (0, 0)) := by
    rw [hW]
    have := heap_alloc_new (wr.alloc (.cells #[.int .i64 t.1, .int .i64 t.2.1, .int .i64 t.2.2] 26)) (.cells #[.int .i64 u.1, .int .i64 u.2.1, .int .i64 u.2.2] 26)
    rw [World.size_alloc] at this
    exact this
  refine ⟨?_, ?_, ?_, by rw [hW]; show ((wr.alloc _).alloc _).heap.size = _; simp⟩
  · refine ⟨?_, ?_, ?_⟩ <;> (rw [cell_of_row W _ _ _ _ (0, 0) h1]; rfl)
  · refine ⟨?_, ?_, ?_⟩ <;> (rw [cell_of_row W _ _ _ _ (0, 0) h2]; rfl)
  · rw [hW]; exact (((Below.refl _ _).alloc (Nat.le_refl _) _).alloc (by simp) _).drew
/-- 'All' of a table whose items are ys. -/
def AllOf (w : World) (ys : List It) (N : Nat) (e : Ending) (w' : World) : Prop := ∃ A c, e = .returned (.slice A N c) ∧ Row w' (.slice A N c) ys ∧ Below w.heap.size w w'
theorem all_of (b : Nat) (V : List Value) (L : List (List It)) (ys : List It) (N : Nat) (w : World) (ht : Tab w b V L) (hlen : ∀ xs ∈ L, xs.length ≤ 65536) (hy : L.flatten = ys) (hN : ys.length = N) :
    Calls Try.prog 10 #[.pointer (some ⟨b, 0, none⟩)] w (AllOf w ys N) := by
  refine (all_any b V L w ht hlen).mono ?_
  rintro e w' ⟨v, rfl, hown, hb⟩
  subst hy hN
  have hrow : Row w' v L.flatten := by
    obtain ⟨h1, h2⟩ := hown
    refine ⟨h1, h2.imp id ?_⟩
    rintro ⟨g, cap, cur, h3, h4, h5⟩
    exact ⟨g, cap, cur, h3, Nat.zero_le _, h5⟩
  obtain ⟨A, c, rfl⟩ := hrow.lenV
  exact ⟨A, c, rfl, hrow, hb⟩
theorem len_of (b : Nat) (V : List Value) (L : List (List It)) (N : Nat) (w : World) (ht : Tab w b V L) (hlen : ∀ xs ∈ L, xs.length ≤ 65536) (hN : L.flatten.length = N) :
    Calls Try.prog 11 #[.pointer (some ⟨b, 0, none⟩)] w fun e w' => e = .returned (.int .i64 N) ∧ w = w' := by
  refine (len_any b V L w ht hlen).mono ?_
  rintro e w' ⟨rfl, rfl⟩
  rw [lenTo_all L ht.lenL, hN]
  exact ⟨rfl, rfl⟩
theorem Row.below {w w' : World} {v : Value} {xs : List It} (h : Row w v xs) (hb : Below w.heap.size w w') : Row w' v xs := row_block h fun g hg => hb.block g (row_lt h hg)
theorem get_of (b : Nat) (V : List Value) (L : List (List It)) (s : ByteArray) (xs yt : List It) (y : It) (w : World) (ht : Tab w b V L) (hx : L[slot s]? = some xs) (hr : Rising xs) (hn : xs.length ≤ 65536) (hh : hits s xs = y :: yt) :
    Calls Try.prog 12 #[.pointer (some ⟨b, 0, none⟩), .string s] w fun e w' => e = .returned (.tuple #[.agg #[.string y.pack, .int .i64 y.kind, .int .i64 y.off, .int .i64 y.long, .int .i64 y.size], .bool true]) ∧ Below w.heap.size w w' := by
  have := get_any b V L s xs w ht hx hr hn
  rw [hh] at this
  exact this
theorem dropAll_len (c : Nat) (ps : List (List UInt8)) : ∀ (L : List (List It)), (∀ xs ∈ L, xs.length ≤ c) → ∀ xs ∈ dropAll ps L, xs.length ≤ c := by
  induction ps with
  | nil => intro L h; exact h
  | cons p ps ih =>
    intro L h
    refine ih _ ?_
    intro xs hx
    obtain ⟨ys, hy, rfl⟩ := List.mem_map.1 hx
    exact Nat.le_trans (List.length_filter_le _ _) (h ys hy)
/-- What 'Drop' does to the second of two tables. -/
def DroppedB (B : Nat) (w0 W : World) (a b : Nat) (Va Vb : List Value) (La Lb : List (List It)) (m : Nat) (e : Ending) (w' : World) : Prop :=
  ∃ Vb', e = .returned (.int .i64 m) ∧ Two B w0 w' a b Va Vb' La Lb ∧ But (Own b Vb) W w' ∧ ∀ g, Own b Vb' g → Own b Vb g ∨ W.heap.size ≤ g
theorem drop_of (B : Nat) (w0 W : World) (a b : Nat) (Va Vb : List Value) (La M : List (List It)) (ps : List (List UInt8)) (p : List UInt8) (ht : Two B w0 W a b Va Vb La (dropAll ps M)) (hlen : ∀ xs ∈ M, xs.length ≤ 65536) (m : Nat) (hm : goneTo (packB p) 256 (dropAll ps M) = m) :
    Calls Try.prog 15 #[.pointer (some ⟨b, 0, none⟩), .string (packB p)] W (DroppedB B w0 W a b Va Vb La (dropAll (ps ++ [p]) M) m) := by
  refine (drop_any b Vb _ (packB p) W ht.tb (dropAll_len _ ps M hlen)).mono ?_
  rintro e w' ⟨V', rfl, h1, h2, h3⟩
  rw [hm, dropAll_snoc]
  exact ⟨V', rfl, (ht.swap.setA h1 h2 h3).swap, h2, h3⟩
theorem packsOf_length (L : List (List It)) : (packsOf L).length ≤ L.flatten.length := by
  have := Lib.compact_length_le ((L.flatten.map fun x => x.pack.data.toList).mergeSort fun x y => decide (x ≤ y))
  rw [List.length_mergeSort, List.length_map] at this
  exact this
/-- The packs' row, as the walk holds it. -/
def PackRow (w : World) (P : Option Addr) (ps : List (List UInt8)) : Prop := ps = [] ∨ ∃ g, P = some ⟨g, 0, none⟩ ∧ g < w.heap.size ∧ ∀ j p, ps[j]? = some p → w.cell? ⟨g, j, none⟩ = some (.string (packB p))
theorem packs_of (B : Nat) (w0 W : World) (a b : Nat) (Va Vb : List Value) (La M : List (List It)) (ht : Two B w0 W a b Va Vb La M) (hlen : ∀ xs ∈ M, xs.length ≤ 65536) (hf : M.flatten.length ≤ 65536) :
    Calls Try.prog 14 #[.pointer (some ⟨b, 0, none⟩)] W fun e w' => ∃ P c, e = .returned (.slice P (packsOf M).length c) ∧ PackRow w' P (packsOf M) ∧ (∀ g, P = some ⟨g, 0, none⟩ → ¬ Own b Vb g ∧ g < w'.heap.size) ∧ Below W.heap.size W w' := by
  refine (packs_any b Vb M W ht.tb hlen hf).mono ?_
  rintro e w' ⟨v, rfl, hown, hb⟩
  rcases hown.2 with ⟨rfl, h0⟩ | ⟨g, cap, cur, rfl, hg, hbk, hn, hc, hs, htk⟩
  · have : packsOf M = [] := List.eq_nil_of_length_eq_zero h0
    rw [this]
    exact ⟨none, 0, rfl, .inl rfl, (fun g hg => by cases hg), hb⟩
  · have hgl := (Array.getElem?_eq_some_iff.1 hbk).1
    refine ⟨_, cap, rfl, .inr ⟨g, rfl, hgl, fun j p hp => ?_⟩, fun g' hg' => ?_, hb⟩
    · rw [cell_of_row w' g _ _ _ (0, 0) hbk]
      have h1 : ((packsOf M).map encStr)[j]? = some (encStr p) := by simp [hp]
      rw [← htk, List.getElem?_take] at h1
      split at h1
      · simpa [encStr, packB] using h1
      · cases h1
    · cases hg'
      exact ⟨fun ho => by have := ht.tb.own_lt ho; omega, hgl⟩
theorem row_at {w : World} {A : Option Addr} {N c m : Nat} {ys : List It} {y : It} (h : Row w (.slice A N c) ys) (hy : ys[m]? = some y) : ∃ g, A = some ⟨g, 0, none⟩ ∧ g < w.heap.size ∧ CellsAt w g (m * 6) y := by
  obtain ⟨cap, ⟨_, rfl⟩ | ⟨g, e, ho, hg, _⟩⟩ := h.form'
  · simp at hy
  · injection e with e1 _ _
    exact ⟨g, e1, hg, h.at_ ho hy⟩
theorem cells_keep {W : World} {g : Nat} {x : It} (h : CellsAt W g 0 x) (hg : g < W.heap.size) : ∀ W', Below W.heap.size W W' →
    (W'.cell? ⟨g, 0, none⟩ = some (.string x.id) ∧ W'.cell? ⟨g, 1, none⟩ = some (.string x.pack) ∧ W'.cell? ⟨g, 2, none⟩ = some (.int .i64 x.kind) ∧ W'.cell? ⟨g, 3, none⟩ = some (.int .i64 x.off) ∧ W'.cell? ⟨g, 4, none⟩ = some (.int .i64 x.long) ∧ W'.cell? ⟨g, 5, none⟩ = some (.int .i64 x.size)) := fun W' hb => by
  obtain ⟨a0, a1, a2, a3, a4, a5⟩ := h.below hb hg
  simp only [Nat.zero_add] at a1 a2 a3 a4 a5
  exact ⟨a0, a1, a2, a3, a4, a5⟩
/-- A block of three numbers that is neither table's. -/
structure FreeAt (W : World) (a b : Nat) (Va Vb : List Value) (g : Nat) (t : Int × Int × Int) : Prop where
  lt : g < W.heap.size
  na : ¬ Own a Va g
  nb : ¬ Own b Vb g
  at_ : TripAt W g 0 t
theorem TripAt.block {w w' : World} {g o : Nat} {t : Int × Int × Int} (h : TripAt w g o t) (hk : w'.heap[g]? = w.heap[g]?) : TripAt w' g o t :=
  ⟨(World.cell?_of_block (a := ⟨g, _, none⟩) hk).trans h.1, (World.cell?_of_block (a := ⟨g, _, none⟩) hk).trans h.2.1, (World.cell?_of_block (a := ⟨g, _, none⟩) hk).trans h.2.2⟩
theorem FreeAt.below {W W' : World} {a b g : Nat} {Va Vb : List Value} {t : Int × Int × Int} (h : FreeAt W a b Va Vb g t) (hb : Below W.heap.size W W') : FreeAt W' a b Va Vb g t :=
  ⟨Nat.lt_of_lt_of_le h.lt hb.size, h.na, h.nb, h.at_.block (hb.block g h.lt)⟩
theorem FreeAt.setA {W W' : World} {a b g : Nat} {Va Va' Vb : List Value} {t : Int × Int × Int} (h : FreeAt W a b Va Vb g t) (hb : But (Own a Va) W W') (hown : ∀ g, Own a Va' g → Own a Va g ∨ W.heap.size ≤ g) : FreeAt W' a b Va' Vb g t :=
  ⟨Nat.lt_of_lt_of_le h.lt hb.size, fun ho => (hown g ho).elim h.na fun hh => by have := h.lt; omega, h.nb, h.at_.block (hb.block g h.lt h.na)⟩
theorem FreeAt.swap {W : World} {a b g : Nat} {Va Vb : List Value} {t : Int × Int × Int} (h : FreeAt W a b Va Vb g t) : FreeAt W b a Vb Va g t := ⟨h.lt, h.nb, h.na, h.at_⟩
theorem free_new {wr W : World} {B a b g : Nat} {w0 : World} {Va Vb : List Value} {La Lb : List (List It)} {t : Int × Int × Int} (h : Two B w0 wr a b Va Vb La Lb) (hg : wr.heap.size ≤ g) (hl : g < W.heap.size) (ht : TripAt W g 0 t) : FreeAt W a b Va Vb g t :=
  ⟨hl, fun ho => by have := h.ta.own_lt ho; omega, fun ho => by have := h.tb.own_lt ho; omega, ht⟩
theorem cells6 {W : World} {a b p q : Nat} {Va Vb : List Value} {t u : Int × Int × Int} (hp : FreeAt W a b Va Vb p t) (hq : FreeAt W a b Va Vb q u) : ∀ W', Below W.heap.size W W' →
    (W'.cell? ⟨p, 0, none⟩ = some (.int .i64 t.1) ∧ W'.cell? ⟨p, 1, none⟩ = some (.int .i64 t.2.1) ∧ W'.cell? ⟨p, 2, none⟩ = some (.int .i64 t.2.2) ∧ W'.cell? ⟨q, 0, none⟩ = some (.int .i64 u.1) ∧ W'.cell? ⟨q, 1, none⟩ = some (.int .i64 u.2.1) ∧ W'.cell? ⟨q, 2, none⟩ = some (.int .i64 u.2.2)) := fun W' hb => by
  obtain ⟨a0, a1, a2⟩ := (hp.below hb).at_
  obtain ⟨b0, b1, b2⟩ := (hq.below hb).at_
  simp only [Nat.zero_add] at a1 a2 b1 b2
  exact ⟨a0, a1, a2, b0, b1, b2⟩
set_option maxHeartbeats 4000000 in
set_option maxRecDepth 100000 in
theorem same_walk (A : Option Addr) (c : Nat) (zs : List (Int × Int × Int)) (w : World) (hz : Trips w A zs) (hc : zs.length ≤ c) (hcm : c ≤ maxLen) :
    Calls Try.prog 3 #[.slice A zs.length c] w fun e w' => e = .returned (.bool true) ∧ Below w.heap.size w w' := by
  unfold maxLen at hcm
  have HW := fun W => Lib.hid (works_any W)
  have HZ := Lib.hid hz
  clear hz
  go_enter Try.func3, Try.ntmps3
  go_wp2_with fail
  refine Calls.mono (new_any _) ?_
  rintro e w1 ⟨rfl, hw1⟩
  have HW1 := Lib.hid hw1
  clear hw1
  go_wp2_with fail
  refine Calls.mono (new_any _) ?_
  rintro e w2 ⟨rfl, hw2⟩
  have hw1 := HW1.out
  clear HW1
  have hs1 : w1.heap.size = w.heap.size + 1 := by rw [hw1]; simp
  have hs2 : w2.heap.size = w.heap.size + 2 := by rw [hw2]; simp [hs1]
  have hT : Two w.heap.size w w2 w.heap.size (w.heap.size + 1) emptyV emptyV (tabOf []) (tabOf []) := by
    have b1 : w1.heap[w.heap.size]? = some (.cells emptyCells 57 (0, 0)) := by rw [hw1]; exact heap_alloc_new w _
    have b2 : w2.heap[w.heap.size]? = some (.cells emptyCells 57 (0, 0)) := by rw [hw2, Below.heap_alloc _ _ _ (by omega)]; exact b1
    have b3 : w2.heap[w.heap.size + 1]? = some (.cells emptyCells 57 (0, 0)) := by rw [hw2, ← hs1]; exact heap_alloc_new w1 _
    refine ⟨tab_new b2, tab_new b3, fun g h1 h2 => ?_, fun g h => ?_, fun g h => ?_, ?_⟩
    · have := own_new h1; have := own_new h2; omega
    · have := own_new h; omega
    · have := own_new h; omega
    · rw [hw2, hw1]; exact ((Below.refl _ _).alloc (Nat.le_refl _) _).alloc (by simp) _
  rw [show w1.heap.size = w.heap.size + 1 from hs1]
  have HT := Lib.hid hT
  clear hT hw1 hw2 hs1
  go_wp2_with fail
  refine Calls.mono (HW _).out ?_
  rintro e w3 ⟨rfl, hb3⟩
  have HT3 := Lib.hid (HT.out.below hb3)
  have hsz3 := hb3.size
  clear hb3 HT HW
  obtain ⟨zt, hzt⟩ : ∃ zt, zs.take 60 = zt := ⟨_, rfl⟩
  have hztl : zt.length ≤ 60 := by rw [← hzt]; simp; omega
  have hcl : zs.length ≤ 60 → zt = zs := fun h => by rw [← hzt]; exact List.take_of_length_le h
  have hcg : 60 < zs.length → zt.length = 60 := fun h => by rw [← hzt]; simp; omega
  have hztc : zt.length ≤ c := by rw [← hzt]; simp; omega
  have HZT : Hid (Trips w A zt) := by rw [← hzt]; exact HZ.out.take 60
  have HCL := Lib.hid hcl
  have HCG := Lib.hid hcg
  clear hzt hcl hcg HZ
  go_upto_if 32 with fail
  go_cut [0] (fun s0 wx => s0 = .slice A zt.length c ∧ Two w.heap.size w wx w.heap.size (w.heap.size + 1) emptyV emptyV (tabOf []) (tabOf []))
  case first =>
    by_cases h60 : (60 : Int) < (zs.length : Int)
    · go_wp2
      go_meet
      case rel => exact ⟨by rw [HCG.out (by omega)], HT3.out⟩
    · go_wp2
      go_meet
      case rel => exact ⟨by rw [HCL.out (by omega)], HT3.out⟩
  case rest =>
    obtain ⟨rfl, hT4⟩ := hcut
    have HT4 := Lib.hid hT4
    clear hT4 HT3 HCL HCG hsz3 hs2
    obtain ⟨it, hit⟩ : ∃ it : Nat → It, ∀ i t, zt[i]? = some t → it i = itOf t := ⟨fun i => itOf ((zt[i]?).getD (0, 0, 0)), fun i t h => by simp [h]⟩
    have HIT := Lib.hid hit
    clear hit
    go_wp2
    go_loopw [37] (fun s wr => ∃ k Va Vb, s = .int .i64 (k : Nat) ∧ k ≤ zt.length ∧ Two w.heap.size w wr w.heap.size (w.heap.size + 1) Va Vb (tabOf (seqA it k)) (tabOf (seqB it zt.length k))) (fun s _ => zt.length - (intOf s).toNat)
    case atStart => exact ⟨0, emptyV, emptyV, rfl, Nat.zero_le _, HT4.out⟩
    case round =>
      obtain ⟨k, Va, Vb, rfl, hk, hT⟩ := hrel
      have HT := Lib.hid hT
      clear hT
      by_cases hk2 : k < zt.length
      · skip
        -- SKIP A
        obtain ⟨t, ht⟩ : ∃ t, zt[k]? = some t := ⟨_, List.getElem?_eq_getElem hk2⟩
        obtain ⟨u, hu⟩ : ∃ u, zt[zt.length - 1 - k]? = some u := ⟨_, List.getElem?_eq_getElem (by omega)⟩
        obtain ⟨g, o, rfl, hg, hTr⟩ : ∃ g o, A = some ⟨g, o, none⟩ ∧ g < w.heap.size ∧ ∀ i t, zt[i]? = some t → TripAt w g (o + i * 3) t := by
          rcases HZT.out with e | h
          · rw [e] at hk2; simp at hk2
          · exact h
        have hlw := HT.out.low
        obtain ⟨c0, c1, c2⟩ : TripAt wr g (o + k * 3) t := by
          obtain ⟨q0, q1, q2⟩ := hTr k t ht
          exact ⟨(hlw.cell (p := ⟨g, _, none⟩) hg).trans q0, (hlw.cell (p := ⟨g, _, none⟩) hg).trans q1, (hlw.cell (p := ⟨g, _, none⟩) hg).trans q2⟩
        obtain ⟨d0, d1, d2⟩ : TripAt wr g (o + (zt.length - 1 - k) * 3) u := by
          obtain ⟨q0, q1, q2⟩ := hTr _ u hu
          exact ⟨(hlw.cell (p := ⟨g, _, none⟩) hg).trans q0, (hlw.cell (p := ⟨g, _, none⟩) hg).trans q1, (hlw.cell (p := ⟨g, _, none⟩) hg).trans q2⟩
        have hgw : g < wr.heap.size := Nat.lt_of_lt_of_le hg HT.out.le
        have HA : Hid (seqA it (k + 1) = seqA it k ++ [itOf t]) := by rw [seqA_succ, HIT.out k t ht]; rfl
        have HB : Hid (seqB it zt.length (k + 1) = seqB it zt.length k ++ [itOf u, itOf t]) := by
          show seqB it zt.length k ++ [it (zt.length - 1 - k), it k] = _
          rw [HIT.out k t ht, HIT.out _ u hu]
        clear ht hu hTr hlw
        go_upto_region 9 with fail
        go_cut [6, 7] (fun p q wx => ∃ gp gq, p = .pointer (some ⟨gp, 0, none⟩) ∧ q = .pointer (some ⟨gq, 0, none⟩) ∧ TripAt wx gp 0 t ∧ TripAt wx gq 0 u ∧ Below wr.heap.size wr wx ∧ wr.heap.size ≤ gp ∧ gp < wx.heap.size ∧ wr.heap.size ≤ gq ∧ gq < wx.heap.size)
        case first =>
          have e1 : IntKind.i64.wrap ((zt.length : Int) - 1) = (zt.length : Int) - 1 := IntWalk.i64_in _ (by omega)
          obtain ⟨m, hm⟩ : ∃ m, zt.length - 1 - k = m := ⟨_, rfl⟩
          rw [hm] at d0 d1 d2
          have e2 : IntKind.i64.wrap ((zt.length : Int) - 1 - k) = (m : Int) := by rw [IntWalk.i64_in _ (by omega)]; omega
          have e4 : (0 : Int) ≤ (m : Int) := by omega
          have e5 : (m : Int) < (zt.length : Int) := by omega
          have e6 : (k : Int) < (zt.length : Int) := by omega
          have e7 : (0 : Int) ≤ (k : Int) := by omega
          clear hm
          go_region_held3 (fun W => W.cell? ⟨g, o + k * 3, none⟩ = some (.int .i64 t.1) ∧ W.cell? ⟨g, o + k * 3 + 1, none⟩ = some (.int .i64 t.2.1) ∧ W.cell? ⟨g, o + k * 3 + 2, none⟩ = some (.int .i64 t.2.2) ∧ W.cell? ⟨g, o + m * 3, none⟩ = some (.int .i64 u.1) ∧ W.cell? ⟨g, o + m * 3 + 1, none⟩ = some (.int .i64 u.2.1) ∧ W.cell? ⟨g, o + m * 3 + 2, none⟩ = some (.int .i64 u.2.2))
            (go_keep) (fail)
          all_goals go_wp2
          all_goals go_meet
          · case rel =>
              obtain ⟨r1, r2, r3, r4⟩ := trips_new wr _ t u rfl
              exact ⟨_, _, rfl, rfl, r1, r2, r3, by omega, by omega, by omega, by omega⟩
          · case rel =>
              obtain ⟨r1, r2, r3, r4⟩ := trips_new wr _ u t rfl
              exact ⟨_, _, rfl, rfl, r2, r1, r3, by omega, by omega, by omega, by omega⟩
        case rest =>
          obtain ⟨gp, gq, rfl, rfl, hp, hq, hbw, h1, h2, h3, h4⟩ := hcut
          have hT5 := HT.out.below hbw
          have hP := free_new HT.out h1 h2 hp
          have hQ := free_new HT.out h3 h4 hq
          have HS := Lib.hid (cells6 hP hQ)
          obtain ⟨c0, c1, c2, d0, d1, d2⟩ := HS.out _ (Below.refl _ _)
          obtain ⟨x, hx⟩ : ∃ x, itOf t = x := ⟨_, rfl⟩
          obtain ⟨y, hy⟩ : ∃ y, itOf u = y := ⟨_, rfl⟩
          have HIX := fun W => Lib.hid (item_any t.1 t.2.1 t.2.2 W)
          have HIY := fun W => Lib.hid (item_any u.1 u.2.1 u.2.2 W)
          have hxo : x.ok = true := by rw [← hx]; exact item_ok _ _ _
          have hyo : y.ok = true := by rw [← hy]; exact item_ok _ _ _
          rw [show itemOf t.1 t.2.1 t.2.2 = x from hx] at HIX
          rw [show itemOf u.1 u.2.1 u.2.2 = y from hy] at HIY
          rw [hx] at HA
          rw [hx, hy] at HB
          have HAD := fun W h => Lib.hid (add_one w.heap.size w W w.heap.size (w.heap.size + 1) Va Vb (seqA it k) x (tabOf (seqB it zt.length k)) h (by rw [seqA_length]; omega) hxo)
          have HBD := fun W V h => Lib.hid (add_two w.heap.size w W w.heap.size (w.heap.size + 1) V Vb (seqB it zt.length k) y x (tabOf (seqA it k ++ [x])) h (by rw [seqB_length]; omega) hyo hxo)
          rw [← HA.out] at HAD HBD
          rw [← HB.out] at HBD
          have HXO := Lib.hid hxo
          have tok1 : True := trivial
          have tok2 : True := trivial
          have tok3 : True := trivial
          clear hx hy hxo hyo hp hq HA HB
          go_wp2
          go_region_held3 (fun W => W.cell? ⟨gp, 0, none⟩ = some (.int .i64 t.1) ∧ W.cell? ⟨gp, 1, none⟩ = some (.int .i64 t.2.1) ∧ W.cell? ⟨gp, 2, none⟩ = some (.int .i64 t.2.2) ∧ W.cell? ⟨gq, 0, none⟩ = some (.int .i64 u.1) ∧ W.cell? ⟨gq, 1, none⟩ = some (.int .i64 u.2.1) ∧ W.cell? ⟨gq, 2, none⟩ = some (.int .i64 u.2.2))
            (first | exact HS.out _ (Below.refl _ _) | exact HS.out _ (Below.refl _ _).drew | exact HS.out _ ((Below.refl _ _).alloc (Nat.le_refl _) _))
            (first
              | (go_at_call 8; have _t := tok1; refine Calls.mono (HIX _).out ?_; rintro e w4 ⟨rfl, hb4⟩; have hT6 := hT5.below ((Below.refl _ _).drew.trans hb4); have hP6 := hP.below ((Below.refl _ _).drew.trans hb4); have hQ6 := hQ.below ((Below.refl _ _).drew.trans hb4); have HS := Lib.hid (cells6 hP6 hQ6); clear tok1)
              | (go_at_call 7; have _t := tok2; refine Calls.mono (HAD _ hT6).out ?_; rintro e w5 ⟨rfl, Va', hT7, hbut7, hown7⟩; have hP7 := hP6.setA hbut7 hown7; have hQ7 := hQ6.setA hbut7 hown7; have HS := Lib.hid (cells6 hP7 hQ7); clear tok2 hbut7 hown7)
              | (go_at_call 8; have _t := tok3; refine Calls.mono (HIY _).out ?_; rintro e w6 ⟨rfl, hb6⟩; have hT8 := hT7.below hb6; have hP8 := hP7.below hb6; have hQ8 := hQ7.below hb6; have HS := Lib.hid (cells6 hP8 hQ8); clear tok3)
              | (go_at_call 8; refine Calls.mono (HIX _).out ?_; rintro e w7 ⟨rfl, hb7⟩; have hT9 := hT8.below hb7; have hP9 := hP8.below hb7; have hQ9 := hQ8.below hb7; have HS := Lib.hid (cells6 hP9 hQ9))
              | (go_at_call 7; refine Calls.mono (HBD _ _ hT9).out ?_; rintro e w8 ⟨rfl, Vb', hT10, hbut10, hown10⟩; have hP10 := hP9.swap.setA hbut10 hown10; have hQ10 := hQ9.swap.setA hbut10 hown10; have HS := Lib.hid (cells6 hP10 hQ10); clear hbut10 hown10))
          have HT11 := Lib.hid (‹Two w.heap.size w _ (w.heap.size + 1) w.heap.size _ _ _ _›).swap
          clear HAD HBD HIX HIY hT5 hP hQ
          go_wp2
          go_roundw
          case rel => exact ⟨k + 1, _, _, by go_num, by omega, HT11.out⟩
          case measure => simp [intOf]; omega
        -- END A
      · have hk3 : k = zt.length := by omega
        subst hk3
        rw [seq_same] at HT
        obtain ⟨M, hM⟩ : ∃ M, tabOf (seqB it zt.length zt.length) = M := ⟨_, rfl⟩
        have hfin := tabOf_fine (seqB it zt.length zt.length)
        have hml := tabOf_len (seqB it zt.length zt.length)
        rw [hM] at HT hfin hml
        rw [seqB_length] at hml
        obtain ⟨ys, hys⟩ : ∃ ys, M.flatten = ys := ⟨_, rfl⟩
        have hyl : ys.length ≤ 30720 := by
          have := flat_le hml hfin.len
          rw [hys] at this
          omega
        obtain ⟨N, hN⟩ : ∃ N, ys.length = N := ⟨_, rfl⟩
        have hNb : N ≤ 30720 := by omega
        have HML : Hid (∀ xs ∈ M, xs.length ≤ 65536) := fun xs hx => by have := hml xs hx; omega
        have HAL := fun b V W h => Lib.hid (all_of b V M ys N W h HML.out hys hN)
        have HLN := fun b V W h => Lib.hid (len_of b V M N W h HML.out (by rw [hys, hN]))
        have HSE := fun v u W h1 h2 => Lib.hid (same_eq v u ys W (by omega) h1 h2)
        have HYS := Lib.hid hys
        have HN := Lib.hid hN
        have HFIN := Lib.hid hfin
        clear hM hml hys hN hfin hyl HT4
        go_wp2_with fail
        refine Calls.mono (HAL _ _ _ HT.out.ta).out ?_
        rintro e w4 ⟨A1, c1, rfl, hr1, hb4⟩
        have HT4 := Lib.hid (HT.out.below hb4)
        have HR1 := Lib.hid hr1
        clear hr1 hb4
        go_wp2_with fail
        refine Calls.mono (HAL _ _ _ HT4.out.tb).out ?_
        rintro e w5 ⟨A2, c2, rfl, hr2, hb5⟩
        have HT5 := Lib.hid (HT4.out.below hb5)
        have HR1' := Lib.hid (HR1.out.below hb5)
        have HR2 := Lib.hid hr2
        clear hr2 hb5 HR1
        go_wp2_with fail
        refine Calls.mono (HSE _ _ _ HR1'.out HR2.out).out ?_
        rintro e w6 ⟨rfl, hb6⟩
        have HT6 := Lib.hid (HT5.out.below hb6)
        clear hb6 HR1' HR2 HSE
        go_wp2_with fail
        refine Calls.mono (HLN _ _ _ HT6.out.ta).out ?_
        rintro e w7 ⟨rfl, rfl⟩
        go_wp2_with fail
        refine Calls.mono (HAL _ _ _ HT6.out.ta).out ?_
        rintro e w7 ⟨A3, c3, rfl, hr3, hb7⟩
        have HT7 := Lib.hid (HT6.out.below hb7)
        clear hr3 hb7 HT4 HT5 HT6
        have HN1 : Hid (∀ i, i < zt.length → it i ∈ seqB it zt.length zt.length) := fun i hi => seqB_has it _ _ i hi
        go_wp2_with fail
        go_loopw [100] (fun s wr => ∃ k : Nat, s = .int .i64 k ∧ k ≤ zt.length ∧ Below w7.heap.size w7 wr) (fun s _ => zt.length - (intOf s).toNat)
        case atStart => exact ⟨0, rfl, Nat.zero_le _, Below.refl _ _⟩
        case round =>
          obtain ⟨k, rfl, hk, hb⟩ := hrel
          have HT8 := Lib.hid (HT7.out.below hb)
          have HB8 := Lib.hid hb
          clear hb
          by_cases hk2 : k < zt.length
          · skip
            -- SKIP B
            obtain ⟨t, ht⟩ : ∃ t, zt[k]? = some t := ⟨_, List.getElem?_eq_getElem hk2⟩
            obtain ⟨g, o, rfl, hg, hTr⟩ : ∃ g o, A = some ⟨g, o, none⟩ ∧ g < w.heap.size ∧ ∀ i t, zt[i]? = some t → TripAt w g (o + i * 3) t := by
              rcases HZT.out with e | h
              · rw [e] at hk2; simp at hk2
              · exact h
            have hlw := HT8.out.low
            obtain ⟨q0, q1, q2⟩ : TripAt wr g (o + k * 3) t := by
              obtain ⟨q0, q1, q2⟩ := hTr k t ht
              exact ⟨(hlw.cell (p := ⟨g, _, none⟩) hg).trans q0, (hlw.cell (p := ⟨g, _, none⟩) hg).trans q1, (hlw.cell (p := ⟨g, _, none⟩) hg).trans q2⟩
            have HIZ := fun W => Lib.hid (item_any t.1 t.2.1 t.2.2 W)
            have hz : itOf t ∈ seqB it zt.length zt.length := by rw [← HIT.out k t ht]; exact HN1.out k hk2
            obtain ⟨z, hze⟩ : ∃ z, itOf t = z := ⟨_, rfl⟩
            rw [show itemOf t.1 t.2.1 t.2.2 = z from hze] at HIZ
            rw [hze] at hz
            obtain ⟨xs, ⟨yi, yp, yk, yo, yl, ysz⟩, yt, hx, hh, hid, hless⟩ := first_hit HFIN.out hz
            simp only at hid
            subst hid
            have HG := fun W h => Lib.hid (get_of w.heap.size Va M z.id xs yt _ W h hx (HFIN.out.rise _ _ hx) (HML.out xs (List.mem_of_getElem? hx)) hh)
            have HL := fun W => Lib.hid (less_any z ⟨z.id, yp, yk, yo, yl, ysz⟩ W)
            rw [hless] at HL
            clear ht hTr hlw hz hze hx hh hless
            go_wp2_with fail
            refine Calls.mono (HIZ _).out ?_
            rintro e w8 ⟨rfl, hb8⟩
            have hbb : Below w7.heap.size w7 w8 := (HB8.out.alloc HB8.out.size _).trans (hb8.mono (by have := HB8.out.size; simp; omega))
            have HB9 := Lib.hid hbb
            have HT9 := Lib.hid (HT7.out.below hbb)
            clear hb8 hbb HB8 HT8
            go_wp2_with fail
            refine Calls.mono (HG _ (HT9.out.below ((Below.refl _ _).alloc (Nat.le_refl _) _)).ta).out ?_
            rintro e w9 ⟨rfl, hb9⟩
            obtain ⟨r0, r1, r2, r3, r4, r5⟩ := (CellsAt.new w8 z).below hb9 (by simp)
            have hlt9 : w8.heap.size < w9.heap.size := by have := hb9.size; simp at this; omega
            have hbb : Below w7.heap.size w7 w9 := (HB9.out.alloc HB9.out.size _).trans (hb9.mono (by have := HB9.out.size; simp; omega))
            have HB10 := Lib.hid hbb
            clear hb9 hbb HG HIZ
            go_wp2_with fail
            refine Calls.mono (HL _).out ?_
            rintro e w10 ⟨rfl, hb10⟩
            have hbb : Below w7.heap.size w7 w10 := (HB10.out.alloc HB10.out.size _).trans (hb10.mono (by have := HB10.out.size; simp; omega))
            have HB11 := Lib.hid hbb
            clear hb10 hbb HL r0 r1 r2 r3 r4 r5
            go_wp2
            go_roundw
            case rel => exact ⟨k + 1, by go_num, by omega, HB11.out⟩
            case measure => simp [intOf]; omega
            -- END B
          · have hk3 : k = zt.length := by omega
            subst hk3
            clear HN1 HIT HZT HB8 HT7
            go_wp2_with fail
            refine Calls.mono (HAL _ _ _ HT8.out.ta).out ?_
            rintro e w8 ⟨A4, c4, rfl, hr4, hb8⟩
            have HT9 := Lib.hid (HT8.out.below hb8)
            have HR4 := Lib.hid hr4
            clear hr4 hb8 HT8
            go_wp2_with fail
            go_loopw [132] (fun s wr => ∃ k : Nat, s = .int .i64 k ∧ k ≤ N ∧ Below w8.heap.size w8 wr) (fun s _ => N - (intOf s).toNat)
            case atStart => exact ⟨0, rfl, Nat.zero_le _, Below.refl _ _⟩
            case round =>
              obtain ⟨k, rfl, hk, hb⟩ := hrel
              have HT10 := Lib.hid (HT9.out.below hb)
              have HR5 := Lib.hid (HR4.out.below hb)
              have HB10 := Lib.hid hb
              clear hb
              by_cases hk2 : k < N
              · skip
                -- SKIP C
                obtain ⟨x, hx⟩ : ∃ x, ys[k]? = some x := ⟨_, List.getElem?_eq_getElem (by rw [HN.out]; exact hk2)⟩
                obtain ⟨g, rfl, hgl, q0, q1, q2, q3, q4, q5⟩ := row_at HR5.out hx
                by_cases hk0 : k = 0
                · subst hk0
                  clear hx
                  go_wp2
                  go_quiet (fail)
                  go_wp2
                  go_roundw
                  case rel => exact ⟨1, by go_num, by omega, below_drewN (HB10.out.alloc HB10.out.size _) _⟩
                  case measure => simp [intOf]; omega
                · obtain ⟨m, hm⟩ : ∃ m, k = m + 1 := ⟨k - 1, by omega⟩
                  obtain ⟨y, hy⟩ : ∃ y, ys[m]? = some y := ⟨_, List.getElem?_eq_getElem (by rw [HN.out]; omega)⟩
                  have hless : lessB y x = true := next_less (by rw [← HYS.out]; exact HFIN.out.flat_rising) hy (by rw [← hm]; exact hx)
                  have HL := fun W => Lib.hid (less_any y x W)
                  rw [hless] at HL
                  have e1 : IntKind.i64.wrap ((k : Int) - 1) = (m : Int) := by rw [IntWalk.i64_in _ (by omega)]; omega
                  have e2 : (0 : Int) < (k : Int) := by omega
                  have e5 : 0 < k := by omega
                  have e6 : decide ((0 : Int) < (k : Int)) = true := decide_eq_true e2
                  have e3 : (m : Int) < (N : Int) := by omega
                  have e4 : (0 : Int) ≤ (m : Int) := by omega
                  have HYY := Lib.hid hy
                  clear hx hless hm hk0 hy
                  have HX := Lib.hid (CellsAt.new wr x)
                  go_upto_region 26 with fail
                  go_cut [149] (fun s wx => s = .bool false ∧ Below w8.heap.size w8 wx)
                  case first =>
                    go_region_with (first
                      | (go_at_call 10; refine Calls.mono (HAL _ _ _ (HT10.out.below ((Below.refl _ _).alloc (Nat.le_refl _) _).drew).ta).out ?_; rintro e w10 ⟨A5, c5, rfl, hr5, hb10⟩; obtain ⟨g5, rfl, hg5, y0, y1, y2, y3, y4, y5⟩ := row_at hr5 HYY.out; have hb11 := ((HB10.out.alloc HB10.out.size _).drew).trans (hb10.mono (by have := HB10.out.size; show _ ≤ (wr.alloc _).heap.size; simp; omega)); obtain ⟨x0, x1, x2, x3, x4, x5⟩ := (HX.out.below ((Below.refl _ _).drew.trans hb10) (by simp)); clear hr5 hb10)
                      | (go_at_call 13; refine Calls.mono (HL _).out ?_; rintro e w11 ⟨rfl, hb12⟩; have hb13 := hb11.trans (hb12.mono hb11.size)))
                    all_goals go_wp2
                    all_goals go_meet
                    all_goals (case rel => exact ⟨rfl, by assumption⟩)
                  case rest =>
                    obtain ⟨rfl, hbx⟩ := hcut
                    have HB14 := Lib.hid hbx
                    clear hbx
                    go_wp2
                    go_roundw
                    case rel => exact ⟨k + 1, by go_num, by omega, HB14.out⟩
                    case measure => simp [intOf]; omega
                -- END C
              · have hk3 : k = N := by omega
                subst hk3
                clear HAL HR4 HR5 HT9 HB10
                have hfl : M.flatten.length = k := by rw [HYS.out, HN.out]
                have HPK := fun W h => Lib.hid (packs_of w.heap.size w W w.heap.size (w.heap.size + 1) Va Vb M M h HML.out (by omega))
                obtain ⟨ps, hps⟩ : ∃ ps, packsOf M = ps := ⟨_, rfl⟩
                have HDN : Hid (∀ xs ∈ dropAll ps M, xs = []) := by rw [← hps]; exact dropAll_none HFIN.out
                have hpl : ps.length ≤ 65536 := by
                  rw [← hps]
                  have := packsOf_length M
                  omega
                rw [hps] at HPK
                have HFL := Lib.hid hfl
                clear hps hfl
                go_wp2_with fail
                refine Calls.mono (HPK _ HT10.out).out ?_
                rintro e w9 ⟨P, c5, rfl, hpr, hpo, hb9⟩
                have HT11 := Lib.hid (HT10.out.below hb9)
                have HPR := Lib.hid hpr
                have HPO := Lib.hid hpo
                clear hpr hpo hb9 HT10 HPK
                go_wp2_with fail
                go_loopw [15, 154] (fun m s wr => ∃ (j n : Nat) (Vb' : List Value), s = .int .i64 j ∧ m = .int .i64 n ∧ j ≤ ps.length ∧ Two w.heap.size w wr w.heap.size (w.heap.size + 1) Va Vb' M (dropAll (ps.take j) M) ∧ n + (dropAll (ps.take j) M).flatten.length = k ∧ ∀ g, P = some ⟨g, 0, none⟩ → ¬ Own (w.heap.size + 1) Vb' g ∧ g < wr.heap.size ∧ wr.heap[g]? = w9.heap[g]?) (fun _ s _ => ps.length - (intOf s).toNat)
                case atStart => exact ⟨0, 0, Vb, rfl, rfl, Nat.zero_le _, HT11.out, by rw [← HFL.out]; simp [dropAll], fun g hg => ⟨(HPO.out g hg).1, (HPO.out g hg).2, rfl⟩⟩
                case round =>
                  obtain ⟨j, n, Vb', rfl, rfl, hj, hT, hn, hP⟩ := hrel
                  by_cases hj2 : j < ps.length
                  · obtain ⟨p, hp⟩ : ∃ p, ps[j]? = some p := ⟨_, List.getElem?_eq_getElem hj2⟩
                    obtain ⟨g, rfl, hg, hpc⟩ : ∃ g, P = some ⟨g, 0, none⟩ ∧ g < w9.heap.size ∧ ∀ j p, ps[j]? = some p → w9.cell? ⟨g, j, none⟩ = some (.string (packB p)) := by
                      rcases HPR.out with e | h
                      · rw [e] at hj2; simp at hj2
                      · exact h
                    obtain ⟨hno, hgl, hbk⟩ := hP g rfl
                    have hcell : wr.cell? ⟨g, j, none⟩ = some (.string (packB p)) := (World.cell?_of_block (a := ⟨g, j, none⟩) hbk).trans (hpc j p hp)
                    have hgo := goneTo_all (packB p) (dropAll (ps.take j) M) hT.tb.lenL
                    obtain ⟨q, hq⟩ : ∃ q, goneTo (packB p) 256 (dropAll (ps.take j) M) = q := ⟨_, rfl⟩
                    have HD := Lib.hid (drop_of w.heap.size w wr w.heap.size (w.heap.size + 1) Va Vb' M M (ps.take j) p hT HML.out q hq)
                    have htk : ps.take j ++ [p] = ps.take (j + 1) := by rw [List.take_add_one, hp]; rfl
                    rw [htk] at HD
                    rw [hq, ← dropAll_snoc, htk] at hgo
                    have hqb : n + q ≤ 30720 := by omega
                    have hqn : n ≤ 30720 := by omega
                    have HGO := Lib.hid hgo
                    have HNN := Lib.hid hn
                    have HBK := Lib.hid hbk
                    clear hq htk hgo hn hbk hp hpc hP hT
                    go_wp2_with fail
                    refine Calls.mono HD.out ?_
                    rintro e w10 ⟨Vb2, rfl, hT2, hbut, hown⟩
                    have HT2 := Lib.hid hT2
                    have HBU := Lib.hid hbut
                    have HOW := Lib.hid hown
                    clear hT2 hbut hown HD
                    go_wp2
                    go_roundw
                    case rel =>
                      refine ⟨j + 1, n + q, Vb2, by go_num, by go_num, by omega, HT2.out, by have := HGO.out; have := HNN.out; omega, fun g' hg' => ?_⟩
                      cases hg'
                      refine ⟨fun ho => ?_, Nat.lt_of_lt_of_le hgl HBU.out.size, (HBU.out.block g hgl hno).trans HBK.out⟩
                      rcases HOW.out g ho with h | h
                      · exact hno h
                      · omega
                    case measure => simp [intOf]; omega
                  · have hj3 : j = ps.length := by omega
                    subst hj3
                    rw [List.take_of_length_le (Nat.le_refl _)] at hT hn
                    have hz : (dropAll ps M).flatten.length = 0 := by
                      rw [List.length_eq_zero_iff, List.flatten_eq_nil_iff]
                      exact HDN.out
                    have hnk : n = k := by omega
                    subst hnk
                    have HLA := Lib.hid (len_of w.heap.size Va M n wr hT.ta HML.out HFL.out)
                    have HLB := Lib.hid (len_of (w.heap.size + 1) Vb' _ 0 wr hT.tb (fun xs hx => by rw [HDN.out xs hx]; simp) hz)
                    have HID := Lib.hid (ids_none (w.heap.size + 1) Vb' _ wr hT.tb HDN.out)
                    have HTT := Lib.hid hT
                    clear hT hn hz hP
                    go_wp2_with fail
                    refine Calls.mono HLA.out ?_
                    rintro e w10 ⟨rfl, rfl⟩
                    go_wp2_with fail
                    refine Calls.mono HLB.out ?_
                    rintro e w10 ⟨rfl, rfl⟩
                    go_wp2_with fail
                    refine Calls.mono HID.out ?_
                    rintro e w10 ⟨rfl, hb10⟩
                    have HBE := Lib.hid (HTT.out.low.trans (hb10.mono HTT.out.le))
                    clear hb10
                    go_wp2
                    go_ret
                    exact ⟨rfl, HBE.out⟩
end Go.Proofs.Ytgigihlmpdpggaa
