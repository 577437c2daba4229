import Derived.Test.YtgigihlmpdpggaaPm
import Derived.Deep.RegionHeld3
import Derived.Deep.DeepCutAuto
import Derived.BigRegion
namespace Go.Proofs.Ytgigihlmpdpggaa
open Go.RowKit
/-- What 'Add' does to the first of two tables. -/
def AddedB (B : Nat) (w0 W : World) (a b : Nat) (Va Vb : List Value) (La Lb : List (List It)) (e : Ending) (w' : World) : Prop :=
  e = .returned (.int .i64 0) ∧ ∃ Va', Two B w0 w' a b Va' Vb La Lb ∧ But (Own a Va) W w' ∧ ∀ g, Own a Va' g → Own a Va g ∨ W.heap.size ≤ g
theorem add_new (B : Nat) (w0 W : World) (a b : Nat) (Va Vb : List Value) (zs ys : List It) (Lb : List (List It)) (ht : Two B w0 W a b Va Vb (tabOf zs) Lb) (hn : zs.length + ys.length ≤ 4096) (hok : ∀ x ∈ ys, x.ok = true) :
    Calls Try.prog 7 #[.pointer (some ⟨a, 0, none⟩), .slice (some ⟨W.heap.size, 0, none⟩) ys.length ys.length] (W.alloc (.cells (flat ys).toArray 32)) (AddedB B w0 W a b Va Vb (tabOf (zs ++ ys)) Lb) := by
  have hbl : Below W.heap.size W (W.alloc (.cells (flat ys).toArray 32)) := (Below.refl _ _).alloc (Nat.le_refl _) _
  have ht2 := ht.below hbl
  have hb := heap_alloc_new W (.cells (flat ys).toArray 32)
  refine (add_any a W.heap.size ys.length Va (tabOf zs) ys _ (by omega) ht2.ta (fun i xs hx => (tabOf_fine zs).rise i xs hx) ?_ (by simp) (fun h => by have := ht.ta.own_lt h; omega) ?_ hok).mono ?_
  · intro i xs hx
    have := tabOf_len zs xs (List.mem_of_getElem? hx)
    omega
  · intro i x hx
    have hc : ∀ m (hm : m < 6) u, x.cells[m]? = some u → (W.alloc (.cells (flat ys).toArray 32)).cell? ⟨W.heap.size, i * 6 + m, none⟩ = some u := fun m hm u hu => by
      rw [cell_of_row _ _ _ _ _ (0, 0) hb]
      have := flat_get ys i m x hx hm
      simpa [hu] using this
    exact ⟨hc 0 (by omega) _ rfl, hc 1 (by omega) _ rfl, hc 2 (by omega) _ rfl, hc 3 (by omega) _ rfl, hc 4 (by omega) _ rfl, hc 5 (by omega) _ rfl⟩
  · rintro e w' ⟨rfl, V', h1, h2, h3⟩
    refine ⟨rfl, V', by rw [← tabOf_append]; exact ht2.setA h1 h2 h3, (But.of_below hbl).trans h2, fun g hg => ?_⟩
    rcases h3 g hg with h | h
    · exact .inl h
    · simp at h; exact .inr (by omega)
theorem add_one (B : Nat) (w0 W : World) (a b : Nat) (Va Vb : List Value) (zs : List It) (x : It) (Lb : List (List It)) (ht : Two B w0 W a b Va Vb (tabOf zs) Lb) (hn : zs.length + 1 ≤ 4096) (hok : x.ok = true) :
    Calls Try.prog 7 #[.pointer (some ⟨a, 0, none⟩), .slice (some ⟨W.heap.size, 0, none⟩) 1 1] (W.alloc (.cells #[.string x.id, .string x.pack, .int .i64 x.kind, .int .i64 x.off, .int .i64 x.long, .int .i64 x.size] 32)) (AddedB B w0 W a b Va Vb (tabOf (zs ++ [x])) Lb) :=
  add_new B w0 W a b Va Vb zs [x] Lb ht hn (by simpa using hok)
theorem add_two (B : Nat) (w0 W : World) (a b : Nat) (Va Vb : List Value) (zs : List It) (x y : It) (La : List (List It)) (ht : Two B w0 W a b Va Vb La (tabOf zs)) (hn : zs.length + 2 ≤ 4096) (hx : x.ok = true) (hy : y.ok = true) :
    Calls Try.prog 7 #[.pointer (some ⟨b, 0, none⟩), .slice (some ⟨W.heap.size, 0, none⟩) 2 2] (W.alloc (.cells #[.string x.id, .string x.pack, .int .i64 x.kind, .int .i64 x.off, .int .i64 x.long, .int .i64 x.size, .string y.id, .string y.pack, .int .i64 y.kind, .int .i64 y.off, .int .i64 y.long, .int .i64 y.size] 32)) (AddedB B w0 W b a Vb Va (tabOf (zs ++ [x, y])) La) :=
  add_new B w0 W b a Vb Va zs [x, y] La ht.swap hn (by simp [hx, hy])
/-- The argument's rows of three numbers. -/
def itOf (t : Int × Int × Int) : It := itemOf t.1 t.2.1 t.2.2
def TripAt (w : World) (g o : Nat) (t : Int × Int × Int) : Prop := w.cell? ⟨g, o, none⟩ = some (.int .i64 t.1) ∧ w.cell? ⟨g, o + 1, none⟩ = some (.int .i64 t.2.1) ∧ w.cell? ⟨g, o + 2, none⟩ = some (.int .i64 t.2.2)
def Trips (w : World) (A : Option Addr) (zs : List (Int × Int × Int)) : Prop := zs = [] ∨ ∃ g o, A = some ⟨g, o, none⟩ ∧ g < w.heap.size ∧ ∀ i t, zs[i]? = some t → TripAt w g (o + i * 3) t
theorem Trips.take {w : World} {A : Option Addr} {zs : List (Int × Int × Int)} (h : Trips w A zs) (n : Nat) : Trips w A (zs.take n) := by
  rcases h with rfl | ⟨g, o, h1, h2, h3⟩
  · exact .inl (by simp)
  · refine .inr ⟨g, o, h1, h2, fun i t ht => h3 i t ?_⟩
    rw [List.getElem?_take] at ht
    split at ht
    · exact ht
    · cases ht
theorem trips_new (wr W : World) (t u : Int × Int × Int) (hW : W = ((wr.alloc (.cells #[.int .i64 t.1, .int .i64 t.2.1, .int .i64 t.2.2] 26)).alloc (.cells #[.int .i64 u.1, .int .i64 u.2.1, .int .i64 u.2.2] 26)).drew) :
    TripAt W wr.heap.size 0 t ∧ TripAt W (wr.heap.size + 1) 0 u ∧ Below wr.heap.size wr W ∧ W.heap.size = wr.heap.size + 2 := by
  have h1 : W.heap[wr.heap.size]? = some (.cells #[.int .i64 t.1, .int .i64 t.2.1, .int .i64 t.2.2] 26 (0, 0)) := by
    rw [hW]
    show ((wr.alloc _).alloc _).heap[wr.heap.size]? = _
    rw [Below.heap_alloc _ _ _ (by simp)]; exact heap_alloc_new wr _
  have h2 : W.heap[wr.heap.size + 1]? = some (.cells #[.int .i64 u.1, .int .i64 u.2.1, .int .i64 u.2.2] 26 (0, 0)) := by
    rw [hW]
    have := heap_alloc_new (wr.alloc (.cells #[.int .i64 t.1, .int .i64 t.2.1, .int .i64 t.2.2] 26)) (.cells #[.int .i64 u.1, .int .i64 u.2.1, .int .i64 u.2.2] 26)
    rw [World.size_alloc] at this
    exact this
  refine ⟨?_, ?_, ?_, by rw [hW]; show ((wr.alloc _).alloc _).heap.size = _; simp⟩
  · refine ⟨?_, ?_, ?_⟩ <;> (rw [cell_of_row W _ _ _ _ (0, 0) h1]; rfl)
  · refine ⟨?_, ?_, ?_⟩ <;> (rw [cell_of_row W _ _ _ _ (0, 0) h2]; rfl)
  · rw [hW]; exact (((Below.refl _ _).alloc (Nat.le_refl _) _).alloc (by simp) _).drew
/-- 'All' of a table whose items are ys. -/
def AllOf (w : World) (ys : List It) (N : Nat) (e : Ending) (w' : World) : Prop := ∃ A c, e = .returned (.slice A N c) ∧ Row w' (.slice A N c) ys ∧ Below w.heap.size w w'
theorem all_of (b : Nat) (V : List Value) (L : List (List It)) (ys : List It) (N : Nat) (w : World) (ht : Tab w b V L) (hlen : ∀ xs ∈ L, xs.length ≤ 65536) (hy : L.flatten = ys) (hN : ys.length = N) :
    Calls Try.prog 10 #[.pointer (some ⟨b, 0, none⟩)] w (AllOf w ys N) := by
  refine (all_any b V L w ht hlen).mono ?_
  rintro e w' ⟨v, rfl, hown, hb⟩
  subst hy hN
  have hrow : Row w' v L.flatten := by
    obtain ⟨h1, h2⟩ := hown
    refine ⟨h1, h2.imp id ?_⟩
    rintro ⟨g, cap, cur, h3, h4, h5⟩
    exact ⟨g, cap, cur, h3, Nat.zero_le _, h5⟩
  obtain ⟨A, c, rfl⟩ := hrow.lenV
  exact ⟨A, c, rfl, hrow, hb⟩
theorem len_of (b : Nat) (V : List Value) (L : List (List It)) (N : Nat) (w : World) (ht : Tab w b V L) (hlen : ∀ xs ∈ L, xs.length ≤ 65536) (hN : L.flatten.length = N) :
    Calls Try.prog 11 #[.pointer (some ⟨b, 0, none⟩)] w fun e w' => e = .returned (.int .i64 N) ∧ w = w' := by
  refine (len_any b V L w ht hlen).mono ?_
  rintro e w' ⟨rfl, rfl⟩
  rw [lenTo_all L ht.lenL, hN]
  exact ⟨rfl, rfl⟩
theorem Row.below {w w' : World} {v : Value} {xs : List It} (h : Row w v xs) (hb : Below w.heap.size w w') : Row w' v xs := row_block h fun g hg => hb.block g (row_lt h hg)
theorem get_of (b : Nat) (V : List Value) (L : List (List It)) (s : ByteArray) (xs yt : List It) (y : It) (w : World) (ht : Tab w b V L) (hx : L[slot s]? = some xs) (hr : Rising xs) (hn : xs.length ≤ 65536) (hh : hits s xs = y :: yt) :
    Calls Try.prog 12 #[.pointer (some ⟨b, 0, none⟩), .string s] w fun e w' => e = .returned (.tuple #[.agg #[.string y.pack, .int .i64 y.kind, .int .i64 y.off, .int .i64 y.long, .int .i64 y.size], .bool true]) ∧ Below w.heap.size w w' := by
  have := get_any b V L s xs w ht hx hr hn
  rw [hh] at this
  exact this
theorem dropAll_len (c : Nat) (ps : List (List UInt8)) : ∀ (L : List (List It)), (∀ xs ∈ L, xs.length ≤ c) → ∀ xs ∈ dropAll ps L, xs.length ≤ c := by
  induction ps with
  | nil => intro L h; exact h
  | cons p ps ih =>
    intro L h
    refine ih _ ?_
    intro xs hx
    obtain ⟨ys, hy, rfl⟩ := List.mem_map.1 hx
    exact Nat.le_trans (List.length_filter_le _ _) (h ys hy)
/-- What 'Drop' does to the second of two tables. -/
def DroppedB (B : Nat) (w0 W : World) (a b : Nat) (Va Vb : List Value) (La Lb : List (List It)) (m : Nat) (e : Ending) (w' : World) : Prop :=
  ∃ Vb', e = .returned (.int .i64 m) ∧ Two B w0 w' a b Va Vb' La Lb ∧ But (Own b Vb) W w' ∧ ∀ g, Own b Vb' g → Own b Vb g ∨ W.heap.size ≤ g
theorem drop_of (B : Nat) (w0 W : World) (a b : Nat) (Va Vb : List Value) (La M : List (List It)) (ps : List (List UInt8)) (p : List UInt8) (ht : Two B w0 W a b Va Vb La (dropAll ps M)) (hlen : ∀ xs ∈ M, xs.length ≤ 65536) (m : Nat) (hm : goneTo (packB p) 256 (dropAll ps M) = m) :
    Calls Try.prog 15 #[.pointer (some ⟨b, 0, none⟩), .string (packB p)] W (DroppedB B w0 W a b Va Vb La (dropAll (ps ++ [p]) M) m) := by
  refine (drop_any b Vb _ (packB p) W ht.tb (dropAll_len _ ps M hlen)).mono ?_
  rintro e w' ⟨V', rfl, h1, h2, h3⟩
  rw [hm, dropAll_snoc]
  exact ⟨V', rfl, (ht.swap.setA h1 h2 h3).swap, h2, h3⟩
theorem packsOf_length (L : List (List It)) : (packsOf L).length ≤ L.flatten.length := by
  have := Lib.compact_length_le ((L.flatten.map fun x => x.pack.data.toList).mergeSort fun x y => decide (x ≤ y))
  rw [List.length_mergeSort, List.length_map] at this
  exact this
/-- The packs' row, as the walk holds it. -/
def PackRow (w : World) (P : Option Addr) (ps : List (List UInt8)) : Prop := ps = [] ∨ ∃ g, P = some ⟨g, 0, none⟩ ∧ g < w.heap.size ∧ ∀ j p, ps[j]? = some p → w.cell? ⟨g, j, none⟩ = some (.string (packB p))
theorem packs_of (B : Nat) (w0 W : World) (a b : Nat) (Va Vb : List Value) (La M : List (List It)) (ht : Two B w0 W a b Va Vb La M) (hlen : ∀ xs ∈ M, xs.length ≤ 65536) (hf : M.flatten.length ≤ 65536) :
    Calls Try.prog 14 #[.pointer (some ⟨b, 0, none⟩)] W fun e w' => ∃ P c, e = .returned (.slice P (packsOf M).length c) ∧ PackRow w' P (packsOf M) ∧ (∀ g, P = some ⟨g, 0, none⟩ → ¬ Own b Vb g ∧ g < w'.heap.size) ∧ Below W.heap.size W w' := by
  refine (packs_any b Vb M W ht.tb hlen hf).mono ?_
  rintro e w' ⟨v, rfl, hown, hb⟩
  rcases hown.2 with ⟨rfl, h0⟩ | ⟨g, cap, cur, rfl, hg, hbk, hn, hc, hs, htk⟩
  · have : packsOf M = [] := List.eq_nil_of_length_eq_zero h0
    rw [this]
    exact ⟨none, 0, rfl, .inl rfl, (fun g hg => by cases hg), hb⟩
  · have hgl := (Array.getElem?_eq_some_iff.1 hbk).1
    refine ⟨_, cap, rfl, .inr ⟨g, rfl, hgl, fun j p hp => ?_⟩, fun g' hg' => ?_, hb⟩
    · rw [cell_of_row w' g _ _ _ (0, 0) hbk]
      have h1 : ((packsOf M).map encStr)[j]? = some (encStr p) := by simp [hp]
      rw [← htk, List.getElem?_take] at h1
      split at h1
      · simpa [encStr, packB] using h1
      · cases h1
    · cases hg'
      exact ⟨fun ho => by have := ht.tb.own_lt ho; omega, hgl⟩
theorem row_at {w : World} {A : Option Addr} {N c m : Nat} {ys : List It} {y : It} (h : Row w (.slice A N c) ys) (hy : ys[m]? = some y) : ∃ g, A = some ⟨g, 0, none⟩ ∧ g < w.heap.size ∧ CellsAt w g (m * 6) y := by
  obtain ⟨cap, ⟨_, rfl⟩ | ⟨g, e, ho, hg, _⟩⟩ := h.form'
  · simp at hy
  · injection e with e1 _ _
    exact ⟨g, e1, hg, h.at_ ho hy⟩
theorem cells_keep {W : World} {g : Nat} {x : It} (h : CellsAt W g 0 x) (hg : g < W.heap.size) : ∀ W', Below W.heap.size W W' →
    (W'.cell? ⟨g, 0, none⟩ = some (.string x.id) ∧ W'.cell? ⟨g, 1, none⟩ = some (.string x.pack) ∧ W'.cell? ⟨g, 2, none⟩ = some (.int .i64 x.kind) ∧ W'.cell? ⟨g, 3, none⟩ = some (.int .i64 x.off) ∧ W'.cell? ⟨g, 4, none⟩ = some (.int .i64 x.long) ∧ W'.cell? ⟨g, 5, none⟩ = some (.int .i64 x.size)) := fun W' hb => by
  obtain ⟨a0, a1, a2, a3, a4, a5⟩ := h.below hb hg
  simp only [Nat.zero_add] at a1 a2 a3 a4 a5
  exact ⟨a0, a1, a2, a3, a4, a5⟩
/-- A block of three numbers that is neither table's. -/
structure FreeAt (W : World) (a b : Nat) (Va Vb : List Value) (g : Nat) (t : Int × Int × Int) : Prop where
  lt : g < W.heap.size
  na : ¬ Own a Va g
  nb : ¬ Own b Vb g
  at_ : TripAt W g 0 t
theorem TripAt.block {w w' : World} {g o : Nat} {t : Int × Int × Int} (h : TripAt w g o t) (hk : w'.heap[g]? = w.heap[g]?) : TripAt w' g o t :=
  ⟨(World.cell?_of_block (a := ⟨g, _, none⟩) hk).trans h.1, (World.cell?_of_block (a := ⟨g, _, none⟩) hk).trans h.2.1, (World.cell?_of_block (a := ⟨g, _, none⟩) hk).trans h.2.2⟩
theorem FreeAt.below {W W' : World} {a b g : Nat} {Va Vb : List Value} {t : Int × Int × Int} (h : FreeAt W a b Va Vb g t) (hb : Below W.heap.size W W') : FreeAt W' a b Va Vb g t :=
  ⟨Nat.lt_of_lt_of_le h.lt hb.size, h.na, h.nb, h.at_.block (hb.block g h.lt)⟩
theorem FreeAt.setA {W W' : World} {a b g : Nat} {Va Va' Vb : List Value} {t : Int × Int × Int} (h : FreeAt W a b Va Vb g t) (hb : But (Own a Va) W W') (hown : ∀ g, Own a Va' g → Own a Va g ∨ W.heap.size ≤ g) : FreeAt W' a b Va' Vb g t :=
  ⟨Nat.lt_of_lt_of_le h.lt hb.size, fun ho => (hown g ho).elim h.na fun hh => by have := h.lt; omega, h.nb, h.at_.block (hb.block g h.lt h.na)⟩
theorem FreeAt.swap {W : World} {a b g : Nat} {Va Vb : List Value} {t : Int × Int × Int} (h : FreeAt W a b Va Vb g t) : FreeAt W b a Vb Va g t := ⟨h.lt, h.nb, h.na, h.at_⟩
theorem free_new {wr W : World} {B a b g : Nat} {w0 : World} {Va Vb : List Value} {La Lb : List (List It)} {t : Int × Int × Int} (h : Two B w0 wr a b Va Vb La Lb) (hg : wr.heap.size ≤ g) (hl : g < W.heap.size) (ht : TripAt W g 0 t) : FreeAt W a b Va Vb g t :=
  ⟨hl, fun ho => by have := h.ta.own_lt ho; omega, fun ho => by have := h.tb.own_lt ho; omega, ht⟩
theorem cells6 {W : World} {a b p q : Nat} {Va Vb : List Value} {t u : Int × Int × Int} (hp : FreeAt W a b Va Vb p t) (hq : FreeAt W a b Va Vb q u) : ∀ W', Below W.heap.size W W' →
    (W'.cell? ⟨p, 0, none⟩ = some (.int .i64 t.1) ∧ W'.cell? ⟨p, 1, none⟩ = some (.int .i64 t.2.1) ∧ W'.cell? ⟨p, 2, none⟩ = some (.int .i64 t.2.2) ∧ W'.cell? ⟨q, 0, none⟩ = some (.int .i64 u.1) ∧ W'.cell? ⟨q, 1, none⟩ = some (.int .i64 u.2.1) ∧ W'.cell? ⟨q, 2, none⟩ = some (.int .i64 u.2.2)) := fun W' hb => by
  obtain ⟨a0, a1, a2⟩ := (hp.below hb).at_
  obtain ⟨b0, b1, b2⟩ := (hq.below hb).at_
  simp only [Nat.zero_add] at a1 a2 b1 b2
  exact ⟨a0, a1, a2, b0, b1, b2⟩
end Go.Proofs.Ytgigihlmpdpggaa
