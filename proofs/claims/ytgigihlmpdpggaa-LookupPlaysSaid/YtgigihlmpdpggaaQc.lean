import Derived.Test.YtgigihlmpdpggaaQb
import Derived.Test.YtgigihlmpdpggaaLkU
namespace Go.Proofs.Ytgigihlmpdpggaa
open Go.RowKit
/-- A list of items, wherever it lies. -/
def ItemsAt (w : World) (A : Option Addr) (xs : List It) : Prop := xs = [] ∨ ∃ g o, A = some ⟨g, o, none⟩ ∧ g < w.heap.size ∧ ∀ i x, xs[i]? = some x → CellsAt w g (o + i * 6) x
theorem ItemsAt.block {w w' : World} {A : Option Addr} {xs : List It} (h : ItemsAt w A xs) (hs : w.heap.size ≤ w'.heap.size) (hk : ∀ g o, A = some ⟨g, o, none⟩ → w'.heap[g]? = w.heap[g]?) : ItemsAt w' A xs := by
  rcases h with h | ⟨g, o, h1, h2, h3⟩
  · exact .inl h
  · exact .inr ⟨g, o, h1, Nat.lt_of_lt_of_le h2 hs, fun i x hx => (h3 i x hx).block (hk g o h1)⟩
theorem ItemsAt.below {w w' : World} {A : Option Addr} {xs : List It} (h : ItemsAt w A xs) (hb : Below w.heap.size w w') : ItemsAt w' A xs := by
  rcases h with h | ⟨g, o, h1, h2, h3⟩
  · exact .inl h
  · exact .inr ⟨g, o, h1, Nat.lt_of_lt_of_le h2 hb.size, fun i x hx => (h3 i x hx).block (hb.block g h2)⟩
theorem Row.items {w : World} {A : Option Addr} {n c : Nat} {xs : List It} (h : Row w (.slice A n c) xs) : ItemsAt w A xs := by
  obtain ⟨cap, ⟨_, rfl⟩ | ⟨g, e, ho, hg, _⟩⟩ := h.form'
  · exact .inl rfl
  · injection e with e1 _ _
    subst e1
    exact .inr ⟨g, 0, rfl, hg, fun i x hx => by rw [Nat.zero_add]; exact h.at_ ho hx⟩
theorem ItemsAt.take {w : World} {A : Option Addr} {xs : List It} (h : ItemsAt w A xs) (r : Nat) : ItemsAt w A (xs.take r) := by
  rcases h with rfl | ⟨g, o, h1, h2, h3⟩
  · exact .inl (by simp)
  · refine .inr ⟨g, o, h1, h2, fun i x hx => h3 i x ?_⟩
    rw [List.getElem?_take] at hx
    split at hx
    · exact hx
    · cases hx
theorem flat_cells {w : World} {g off : Nat} {xs : List It} (hc : ∀ i x, xs[i]? = some x → CellsAt w g (off + i * 6) x) (j : Nat) (u : Value) (hu : (flat xs)[j]? = some u) : w.cell? ⟨g, off + j, none⟩ = some u := by
  have hj : j < xs.length * 6 := by rw [← flat_length]; exact (List.getElem?_eq_some_iff.1 hu).1
  obtain ⟨q, r, rfl, hr⟩ : ∃ q r, j = q * 6 + r ∧ r < 6 := ⟨j / 6, j % 6, by omega, Nat.mod_lt _ (by omega)⟩
  obtain ⟨x, hx⟩ : ∃ x, xs[q]? = some x := ⟨_, List.getElem?_eq_getElem (by omega)⟩
  obtain ⟨e0, e1, e2, e3, e4, e5⟩ := hc _ _ hx
  have := flat_get xs q r x hx hr
  rw [hu] at this
  rw [← Nat.add_assoc]
  match r, hr with
  | 0, _ => cases this; exact e0
  | 1, _ => cases this; exact e1
  | 2, _ => cases this; exact e2
  | 3, _ => cases this; exact e3
  | 4, _ => cases this; exact e4
  | 5, _ => cases this; exact e5
theorem append_items (B : Nat) (w : World) (o : Value) (n m c : Nat) (ks : List Value) (A : Option Addr) (xs : List It) (hown : w.ownsRow B 32 6 o n ks) (hA : ItemsAt w A xs) (hm : xs.length = m) (hB : B ≤ w.heap.size) (hn : n + m ≤ 33554432) :
    ∃ o' w', (Builtin.append_ #[35, 35] 35 #[o, .slice A m c]).run Try.prog w = .ok o' w' ∧ w'.ownsRow B 32 6 o' (n + m) (ks ++ flat xs) ∧ w.grownBy w' o.ownBlock ∧ (o'.ownBlock = o.ownBlock ∨ o'.ownBlock = some w.heap.size) ∧ (o = .slice none 0 0 → 0 < m → o' ≠ .slice none 0 0) := by
  obtain ⟨i0, hi0, hz0, hz1, hz2⟩ := info_parts item_info
  rcases hA with rfl | ⟨g, off, rfl, hg, hc⟩
  · simp at hm
    subst hm
    obtain ⟨A', c', rfl, hc⟩ : ∃ A c, o = .slice A n c ∧ n ≤ c := by
      rcases hown.2 with ⟨rfl, rfl⟩ | ⟨_, c, _, rfl, _, _, h2, _⟩
      · exact ⟨_, _, rfl, Nat.le_refl _⟩
      · exact ⟨_, c, rfl, h2⟩
    exact ⟨_, w, run_append_nothing w _ _ _ 32 i0 Try.underlying35 hi0 A' n c' hc _ (by rw [hz1]; exact src_none w A c), by simpa [flat] using hown, ⟨rfl, rfl, rfl, Nat.le_refl _, fun _ _ _ => rfl⟩, .inl rfl, fun _ h => by omega⟩
  · subst hm
    obtain ⟨v', w', hrun, hrow', hgrow, hnil, hat⟩ := run_append_own_at (P := Try.prog) w B 35 35 32 i0 _ 6 64 Try.underlying35 hi0 hz0 hz1 hz2 rfl (by omega) o n ks hown ⟨g, off, none⟩ xs.length c (flat xs) (flat_length xs)
      (fun j u hu => by rw [Go.WideShapes.add_plain]; exact flat_cells hc j u hu)
      (fun u hu => by simp only [flat, List.mem_flatMap] at hu; obtain ⟨x, _, hx⟩ := hu; exact cells_one x u hx) (by unfold maxLen; omega) (by omega) hB
    exact ⟨v', w', hrun, hrow', hgrow, hat, fun h1 h2 h3 => by have := (hnil.1 h3).2; omega⟩
/-- The document's table. -/
structure RTab (w : World) (p : Nat) (v : Value) (l : List It) : Prop where
  blk : w.heap[p]? = some (.cells #[v] 48 (0, 0))
  row : Row w v l
theorem RTab.lt {w : World} {p : Nat} {v : Value} {l : List It} (h : RTab w p v l) : p < w.heap.size := (Array.getElem?_eq_some_iff.1 h.blk).1
theorem RTab.ne {w : World} {p : Nat} {v : Value} {l : List It} (h : RTab w p v l) : v.ownBlock ≠ some p := by
  rcases h.row.2 with ⟨rfl, _⟩ | ⟨g, cap, cur, rfl, _, hg, _⟩
  · simp [Value.ownBlock]
  · intro e
    have : g = p := by simpa [Value.ownBlock] using e
    subst this
    rw [h.blk] at hg
    injection hg with hg
    injection hg with _ ht
    exact absurd ht (by decide)
/-- Its blocks. -/
def ROwn (p : Nat) (v : Value) (g : Nat) : Prop := g = p ∨ v.ownBlock = some g
theorem RTab.own_lt {w : World} {p : Nat} {v : Value} {l : List It} (h : RTab w p v l) {g : Nat} (hg : ROwn p v g) : g < w.heap.size := by
  rcases hg with rfl | hg
  · exact h.lt
  · exact row_lt h.row hg
theorem RTab.kept {w w' : World} {p : Nat} {v : Value} {l : List It} (h : RTab w p v l) (hk : ∀ g, ROwn p v g → w'.heap[g]? = w.heap[g]?) : RTab w' p v l :=
  ⟨(hk p (.inl rfl)).trans h.blk, row_block h.row fun g hg => hk g (.inr hg)⟩
theorem RTab.below {w w' : World} {p : Nat} {v : Value} {l : List It} (h : RTab w p v l) (hb : Below w.heap.size w w') : RTab w' p v l :=
  h.kept fun g hg => hb.block g (h.own_lt hg)
theorem RTab.cell {w : World} {p : Nat} {v : Value} {l : List It} (h : RTab w p v l) : w.cell? ⟨p, 0, none⟩ = some v := by
  rw [cell_of_row w p 0 _ _ (0, 0) h.blk]; rfl
theorem RTab.frozen {w : World} {p : Nat} {v : Value} {l : List It} (h : RTab w p v l) : w.frozen? ⟨p, 0, none⟩ = false := by
  have := h.blk
  simp [World.frozen?, this]
/-- The list is another one. -/
theorem RTab.set_ {w w1 : World} {p : Nat} {v v' : Value} {l l' : List It} (h : RTab w p v l) (hb : Below w.heap.size w w1) (hr : Row w1 v' l') : RTab (w1.setCell ⟨p, 0, none⟩ v') p v' l' ∧ But (· = p) w (w1.setCell ⟨p, 0, none⟩ v') := by
  have hbk : w1.heap[p]? = some (.cells #[v] 48 (0, 0)) := (hb.block p h.lt).trans h.blk
  have hne : v'.ownBlock ≠ some p := by
    rcases hr.2 with ⟨rfl, _⟩ | ⟨g, cap, cur, rfl, _, hg, _⟩
    · simp [Value.ownBlock]
    · intro e
      have : g = p := by simpa [Value.ownBlock] using e
      subst this
      rw [hbk] at hg
      injection hg with hg
      injection hg with _ ht
      exact absurd ht (by decide)
  have hset : ∀ k, k ≠ p → (w1.setCell ⟨p, 0, none⟩ v').heap[k]? = w1.heap[k]? := fun k hk => Below.heap_setCell w1 ⟨p, 0, none⟩ v' k hk
  refine ⟨⟨?_, row_block hr fun g hg => hset g fun e => hne (by rw [hg, e])⟩, hb.os, hb.tape, hb.output, by simpa [World.setCell] using hb.size, fun k hk hs => ?_⟩
  · simp [World.setCell, Array.getElem?_modify, hbk]
  · rw [hset k hs]; exact hb.block k hk
theorem pos_stop (y : It) (l : List It) (x : It) (h : l[pos y l]? = some x) : lessB x y = false := by
  induction l with
  | nil => simp at h
  | cons a l ih =>
    by_cases ha : a.ord y < 0
    · refine ih ?_
      simp only [pos, List.takeWhile_cons, ha, decide_true, if_true, List.length_cons, List.getElem?_cons_succ] at h
      exact h
    · simp only [pos, List.takeWhile_cons, ha, decide_false, Bool.false_eq_true, if_false, List.length_nil, List.getElem?_cons_zero, Option.some.injEq] at h
      subst h
      simp [lessB, ha]
/-- What 'put' comes to. -/
def Putted (w : World) (p : Nat) (v : Value) (l' : List It) (e : Ending) (w' : World) : Prop :=
  e = .returned (.tuple #[]) ∧ ∃ v', RTab w' p v' l' ∧ But (· = p) w w' ∧ ∀ g, ROwn p v' g → ROwn p v g ∨ w.heap.size ≤ g
end Go.Proofs.Ytgigihlmpdpggaa
