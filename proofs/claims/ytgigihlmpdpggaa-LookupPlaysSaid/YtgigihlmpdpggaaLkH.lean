import Derived.Test.YtgigihlmpdpggaaLkG
namespace Go.Proofs.Ytgigihlmpdpggaa
open Go.RowKit
/-- A table in memory: a block of 256 slices, each of which holds a list, in a block of its own. -/
structure Tab (w : World) (b : Nat) (V : List Value) (L : List (List It)) : Prop where
  blk : w.heap[b]? = some (.cells V.toArray 57 (0, 0))
  lenV : V.length = 256
  lenL : L.length = 256
  row : ∀ (i : Nat) (v : Value) (xs : List It), V[i]? = some v → L[i]? = some xs → Row w v xs
  apart : ∀ (i j : Nat) (v u : Value) (g : Nat), i ≠ j → V[i]? = some v → V[j]? = some u → v.ownBlock = some g → u.ownBlock ≠ some g
/-- The blocks that a table has. -/
def Own (b : Nat) (V : List Value) (g : Nat) : Prop := g = b ∨ ∃ (i : Nat) (v : Value), V[i]? = some v ∧ v.ownBlock = some g
/-- But for the blocks of S the world w' is as w was. -/
structure But (S : Nat → Prop) (w w' : World) : Prop where
  os : w'.os = w.os
  tape : w'.tape = w.tape
  output : w'.output = w.output
  size : w.heap.size ≤ w'.heap.size
  block : ∀ k, k < w.heap.size → ¬ S k → w'.heap[k]? = w.heap[k]?
theorem But.refl (S : Nat → Prop) (w : World) : But S w w := ⟨rfl, rfl, rfl, Nat.le_refl _, fun _ _ _ => rfl⟩
theorem But.of_below {S : Nat → Prop} {w w' : World} (h : Below w.heap.size w w') : But S w w' := ⟨h.os, h.tape, h.output, h.size, fun k hk _ => h.block k hk⟩
theorem But.trans {S : Nat → Prop} {a b c : World} (h : But S a b) (k : But S b c) : But S a c :=
  ⟨k.os.trans h.os, k.tape.trans h.tape, k.output.trans h.output, Nat.le_trans h.size k.size, fun i hi hs => (k.block i (Nat.lt_of_lt_of_le hi h.size) hs).trans (h.block i hi hs)⟩
theorem But.then_ {S T : Nat → Prop} {a b c : World} (h : But S a b) (k : But T b c) (hst : ∀ i, i < a.heap.size → T i → S i) : But S a c :=
  ⟨k.os.trans h.os, k.tape.trans h.tape, k.output.trans h.output, Nat.le_trans h.size k.size, fun i hi hs => (k.block i (Nat.lt_of_lt_of_le hi h.size) fun ht => hs (hst i hi ht)).trans (h.block i hi hs)⟩
theorem But.mono {S T : Nat → Prop} {w w' : World} (h : But S w w') (hst : ∀ k, k < w.heap.size → S k → T k) : But T w w' :=
  ⟨h.os, h.tape, h.output, h.size, fun k hk ht => h.block k hk fun hs => ht (hst k hk hs)⟩
theorem row_block {w w' : World} {v : Value} {xs : List It} (h : Row w v xs) (hk : ∀ g, v.ownBlock = some g → w'.heap[g]? = w.heap[g]?) : Row w' v xs := by
  obtain ⟨h1, h2⟩ := h
  refine ⟨h1, h2.imp id ?_⟩
  rintro ⟨g, cap, cur, rfl, r0, r1, r2⟩
  exact ⟨g, cap, cur, rfl, r0, (hk g rfl).trans r1, r2⟩
theorem row_lt {w : World} {v : Value} {xs : List It} (h : Row w v xs) {g : Nat} (hg : v.ownBlock = some g) : g < w.heap.size := (h.lt g hg).2
theorem Tab.lt {w : World} {b : Nat} {V : List Value} {L : List (List It)} (h : Tab w b V L) : b < w.heap.size := (Array.getElem?_eq_some_iff.1 h.blk).1
theorem Tab.own_lt {w : World} {b : Nat} {V : List Value} {L : List (List It)} (h : Tab w b V L) {g : Nat} (hg : Own b V g) : g < w.heap.size := by
  rcases hg with rfl | ⟨i, v, hv, ho⟩
  · exact h.lt
  · have hi : i < 256 := by rw [← h.lenV]; exact (List.getElem?_eq_some_iff.1 hv).1
    exact row_lt (h.row i v _ hv (List.getElem?_eq_getElem (by rw [h.lenL]; exact hi))) ho
/-- A table lives on where none of its blocks turns. -/
theorem Tab.kept {w w' : World} {b : Nat} {V : List Value} {L : List (List It)} (h : Tab w b V L) (hk : ∀ g, Own b V g → w'.heap[g]? = w.heap[g]?) : Tab w' b V L :=
  ⟨(hk b (Or.inl rfl)).trans h.blk, h.lenV, h.lenL, fun i v xs hv hx => row_block (h.row i v xs hv hx) fun g hg => hk g (Or.inr ⟨i, v, hv, hg⟩), h.apart⟩
theorem Tab.but {S : Nat → Prop} {w w' : World} {b : Nat} {V : List Value} {L : List (List It)} (h : Tab w b V L) (hb : But S w w') (hs : ∀ g, Own b V g → ¬ S g) : Tab w' b V L :=
  h.kept fun g hg => hb.block g (h.own_lt hg) (hs g hg)
theorem Tab.cell {w : World} {b : Nat} {V : List Value} {L : List (List It)} (h : Tab w b V L) {i : Nat} {v : Value} (hv : V[i]? = some v) : w.cell? ⟨b, i, none⟩ = some v := by
  rw [cell_of_row w b i _ _ (0, 0) h.blk]; simpa using hv
theorem Tab.frozen {w : World} {b : Nat} {V : List Value} {L : List (List It)} (h : Tab w b V L) (i : Nat) : w.frozen? ⟨b, i, none⟩ = false := by
  have := h.blk
  simp [World.frozen?, this]
theorem row_ne {w : World} {v : Value} {xs : List It} (h : Row w v xs) {b : Nat} {cs : Array Value} (hb : w.heap[b]? = some (.cells cs 57 (0, 0))) : v.ownBlock ≠ some b := by
  rcases h.2 with ⟨rfl, _⟩ | ⟨g, cap, cur, rfl, _, hg, _⟩
  · simp [Value.ownBlock]
  · intro e
    have : g = b := by simpa [Value.ownBlock] using e
    subst this
    rw [hb] at hg
    injection hg with hg
    injection hg with _ ht
    exact absurd ht (by decide)
/-- A list is turned: the row is now another value's, in the block that it had or in a new one. -/
theorem Tab.set_ {w w1 : World} {b i : Nat} {V : List Value} {L : List (List It)} {v v' : Value} {xs ys : List It} (h : Tab w b V L) (hv : V[i]? = some v) (hx : L[i]? = some xs)
    (hr : Row w1 v' ys) (hg : w.grownBy w1 v.ownBlock) (hat : v'.ownBlock = v.ownBlock ∨ ∃ k, v'.ownBlock = some k ∧ w.heap.size ≤ k) :
    Tab (w1.setCell ⟨b, i, none⟩ v') b (V.set i v') (L.set i ys) ∧ But (Own b V) w (w1.setCell ⟨b, i, none⟩ v') := by
  have hne := row_ne (h.row i v xs hv hx) h.blk
  have hb1 : w1.heap[b]? = some (.cells V.toArray 57 (0, 0)) := (hg.block b h.lt (Ne.symm hne)).trans h.blk
  have hne' : v'.ownBlock ≠ some b := row_ne hr hb1
  have hset : ∀ k, k ≠ b → (w1.setCell ⟨b, i, none⟩ v').heap[k]? = w1.heap[k]? := fun k hk => Below.heap_setCell w1 ⟨b, i, none⟩ v' k hk
  refine ⟨⟨?_, by simp [h.lenV], by simp [h.lenL], ?_, ?_⟩, ?_⟩
  · simp [World.setCell, Array.getElem?_modify, hb1]
  · intro j u zs hu hz
    rw [List.getElem?_set] at hu hz
    by_cases hij : i = j
    · subst hij
      rw [if_pos rfl] at hu hz
      split at hu <;> cases hu
      split at hz <;> cases hz
      exact row_block hr fun g hgg => hset g (fun e => hne' (by rw [hgg, e]))
    · rw [if_neg hij] at hu hz
      have hrj := h.row j u zs hu hz
      refine row_block hrj fun g hgg => ?_
      rw [hset g (fun e => row_ne hrj h.blk (by rw [hgg, e]))]
      refine hg.block g (row_lt hrj hgg) fun e => ?_
      exact h.apart i j v u g hij hv hu e.symm hgg
  · intro j k u z g hjk hu hz hgu
    rw [List.getElem?_set] at hu hz
    by_cases hij : i = j
    · subst hij
      rw [if_pos rfl] at hu
      rw [if_neg hjk] at hz
      split at hu <;> cases hu
      rcases hat with e | ⟨m, hm, hm2⟩
      · rw [e] at hgu
        exact h.apart i k v z g hjk hv hz hgu
      · intro hz2
        have hk : k < L.length := by rw [h.lenL, ← h.lenV]; exact (List.getElem?_eq_some_iff.1 hz).1
        have := row_lt (h.row k z _ hz (List.getElem?_eq_getElem hk)) hz2
        rw [hm] at hgu
        cases hgu
        omega
    · rw [if_neg hij] at hu
      by_cases hik : i = k
      · subst hik
        rw [if_pos rfl] at hz
        split at hz <;> cases hz
        have hj : j < L.length := by rw [h.lenL, ← h.lenV]; exact (List.getElem?_eq_some_iff.1 hu).1
        have hlt := row_lt (h.row j u _ hu (List.getElem?_eq_getElem hj)) hgu
        rcases hat with e | ⟨m, hm, hm2⟩
        · rw [e]
          exact h.apart j i u v g hjk hu hv hgu
        · rw [hm]
          intro e
          cases e
          omega
      · rw [if_neg hik] at hz
        exact h.apart j k u z g hjk hu hz hgu
  · refine ⟨hg.os, hg.tape, hg.output, by simpa [World.setCell] using hg.size, fun k hk hs => ?_⟩
    rw [hset k (fun e => hs (Or.inl e))]
    exact hg.block k hk fun e => hs (Or.inr ⟨i, v, hv, e.symm⟩)
end Go.Proofs.Ytgigihlmpdpggaa
