import Derived.Test.YtgigihlmpdpggaaLkF
import Derived.Test.YtgigihlmpdpggaaLkO
namespace Go.Proofs.Ytgigihlmpdpggaa
open Go.RowKit
theorem insert_any (v : Value) (i : Nat) (xs : List It) (y : It) (h c : Nat) (w : World) (hn : xs.length ≤ 65536) (hv : Row w v xs) (hi : i ≤ xs.length) (hne : v.ownBlock ≠ some h) (hy : w.heap[h]? = some (.cells y.cells.toArray 32 (0, 0))) :
    Calls Try.prog 26 #[v, .int .i64 i, .slice (some ⟨h, 0, none⟩) 1 c] w (Inserted w v (xs.take i ++ y :: xs.drop i)) := by
  have hh : h < w.heap.size := (Array.getElem?_eq_some_iff.1 hy).1
  have hcy : CellsAt w h 0 y := by constructor <;> rw [cell_of_row w h _ y.cells.toArray _ (0, 0) hy] <;> rfl
  by_cases he : i = xs.length
  · subst he
    have := insert_end v xs y h c w hn hv hcy
    simpa using this
  · obtain ⟨cap, ⟨rfl, rfl⟩ | ⟨g, rfl, ho, hg, hcap, hm⟩⟩ := hv.form'
    · simp at hi he; omega
    · have hgh : g ≠ h := fun e => hne (by rw [← e]; rfl)
      by_cases hr : xs.length + 1 ≤ cap
      · exact insert_room g cap i xs y h c w hn hm hv (by omega) hr hgh hy
      · exact insert_grow g cap i xs y h c w hn hv (by omega) (by omega) hh hy
/-! ### Lists in order -/
def Rising (l : List It) : Prop := l.Pairwise fun x y => x.ord y < 0
def pos (y : It) (l : List It) : Nat := (l.takeWhile fun x => decide (x.ord y < 0)).length
def ins (y : It) (l : List It) : List It := if (l[pos y l]?).any fun x => x.ord y == 0 then l else l.take (pos y l) ++ y :: l.drop (pos y l)
theorem pos_le (y : It) (l : List It) : pos y l ≤ l.length := by
  unfold pos
  exact List.Sublist.length_le (List.takeWhile_sublist _)
theorem pos_lo (y : It) (l : List It) : ∀ i x, i < pos y l → l[i]? = some x → x.ord y < 0 := by
  induction l with
  | nil => intro i x h; simp [pos] at h
  | cons a l ih =>
    intro i x h hx
    by_cases ha : a.ord y < 0
    · cases i with
      | zero => simp at hx; subst hx; exact ha
      | succ i =>
        refine ih i x ?_ (by simpa using hx)
        simp [pos, ha] at h
        simpa [pos] using h
    · simp [pos, ha] at h
theorem pos_hi (y : It) (l : List It) (hl : Rising l) : ∀ i x, pos y l ≤ i → l[i]? = some x → 0 ≤ x.ord y := by
  induction l with
  | nil => intro i x _ h; simp at h
  | cons a l ih =>
    intro i x h hx
    obtain ⟨h1, h2⟩ := List.pairwise_cons.1 hl
    by_cases ha : a.ord y < 0
    · cases i with
      | zero => simp [pos, ha] at h
      | succ i =>
        refine ih h2 i x ?_ (by simpa using hx)
        simp [pos, ha] at h
        simpa [pos] using h
    · cases i with
      | zero => simp at hx; subst hx; omega
      | succ i =>
        have hax := h1 x (List.mem_of_getElem? (by simpa using hx))
        have := ord_pre.trans a x y hax
        omega
theorem ins_rising (y : It) (l : List It) (hl : Rising l) : Rising (ins y l) := by
  unfold ins
  split
  · exact hl
  · rename_i hno
    have hlo := pos_lo y l
    have hhi := pos_hi y l hl
    have h0 : ∀ a, l[pos y l]? = some a → y.ord a < 0 := by
      intro a ha
      have h1 := hhi _ a (Nat.le_refl _) ha
      have h2 : ¬ a.ord y = 0 := fun e => hno (by rw [ha]; simp [e])
      have := ord_pre.anti a y
      omega
    have hhi' : ∀ i x, pos y l ≤ i → l[i]? = some x → y.ord x < 0 := by
      intro i x hi hx
      by_cases he : i = pos y l
      · subst he; exact h0 x hx
      · have hil : i < l.length := (List.getElem?_eq_some_iff.1 hx).1
        have hpl : pos y l < l.length := by omega
        obtain ⟨a, ha⟩ : ∃ a, l[pos y l]? = some a := ⟨_, List.getElem?_eq_getElem hpl⟩
        have hax : a.ord x < 0 := by
          have := List.pairwise_iff_getElem.1 hl (pos y l) i hpl hil (by omega)
          rw [List.getElem?_eq_getElem hpl] at ha
          rw [List.getElem?_eq_getElem hil] at hx
          cases ha; cases hx
          exact this
        exact ord_pre.trans y a x (h0 a ha) hax
    unfold Rising at *
    rw [List.pairwise_append]
    refine ⟨hl.sublist (List.take_sublist _ _), ?_, ?_⟩
    · rw [List.pairwise_cons]
      refine ⟨fun x hx => ?_, hl.sublist (List.drop_sublist _ _)⟩
      obtain ⟨k, hk⟩ := List.mem_iff_getElem?.1 hx
      rw [List.getElem?_drop] at hk
      exact hhi' _ x (by omega) hk
    · intro a ha b hb
      obtain ⟨k, hk⟩ := List.mem_iff_getElem?.1 ha
      rw [List.getElem?_take] at hk
      split at hk
      · rename_i hkl
        have hay := hlo k a hkl hk
        rcases List.mem_cons.1 hb with rfl | hb
        · exact hay
        · obtain ⟨k', hk'⟩ := List.mem_iff_getElem?.1 hb
          rw [List.getElem?_drop] at hk'
          exact ord_pre.trans a y b hay (hhi' _ b (by omega) hk')
      · cases hk
end Go.Proofs.Ytgigihlmpdpggaa
