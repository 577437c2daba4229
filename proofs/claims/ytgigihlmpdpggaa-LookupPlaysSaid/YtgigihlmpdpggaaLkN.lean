import Derived.Test.YtgigihlmpdpggaaLkM
import Derived.Laws.IdiomCopy
namespace Go.Proofs.Ytgigihlmpdpggaa
open Go.RowKit
theorem setCells_row (w : World) (g o : Nat) (cur : Array Value) (t : TypeId) (vs : List Value) (hg : w.heap[g]? = some (.cells cur t (0, 0))) (hf : o + vs.length ≤ cur.size) (h1 : ∀ v ∈ vs, v.oneCell' = true) :
    w.setCells g o vs = w.setRow g (splice cur.toList o vs).toArray := by
  have a := run_storeCells_at Try.prog g o t vs 0 cur w hg (by simpa using hf) h1
  have b := run_storeCells_cells (P := Try.prog) g o vs 0 w (fun j hj => by simp [World.cell?, hg]; omega) (fun j hj => by simp [World.frozen?, hg]) h1
  rw [a] at b
  injection b with _ b
  simp only [Nat.add_zero] at b
  rw [← b]
  simp only [splice, List.append_assoc]
section
variable {P : Program}
theorem run_clear_k (w : World) (t e ty : TypeId) (z : Value) (ht : P.underlying t = some (.slice e)) (hv : (zeroValue e).run P w = .ok z w) (g o n c : Nat) (hn : 0 < n) (cur : Array Value) (tt : TypeId)
    (hg : w.heap[g]? = some (.cells cur tt (0, 0))) (hf : o + (Builtin.zeroCells z.cells n).size ≤ cur.size) (h1 : ∀ v ∈ (Builtin.zeroCells z.cells n).toList, v.oneCell' = true) :
    (Builtin.clear_ #[t] ty #[.slice (some ⟨g, o, none⟩) n c]).run P w = .ok (.tuple #[]) (w.setRow g (splice cur.toList o (Builtin.zeroCells z.cells n).toList).toArray) := by
  have hst := run_storeCells_at P g o tt (Builtin.zeroCells z.cells n).toList 0 cur w hg (by simpa using hf) h1
  simp only [Nat.add_zero] at hst
  rw [show (w.setRow g (splice cur.toList o (Builtin.zeroCells z.cells n).toList).toArray) = w.setRow g (cur.toList.take o ++ (Builtin.zeroCells z.cells n).toList ++ cur.toList.drop (o + (Builtin.zeroCells z.cells n).toList.length)).toArray by simp only [splice, List.append_assoc]]
  obtain ⟨m, rfl⟩ : ∃ m, n = m + 1 := ⟨n - 1, by omega⟩
  simp [Builtin.clear_, run_underlying ht, hv, hst]
theorem wp_clear_run (w : World) {o : Oper} {a : Act} {K : Act → World → Prop} {Q : Exit → Act → World → Prop} (s : Operand) (t : TypeId)
    (ho : o.op = .call { callee := .builtin .clear, args := #[s], argTypes := #[t] }) (vs : Value) (hs : a.eval s = vs)
    (v' : Value) (w' : World) (hr : (Builtin.clear_ #[t] o.type #[vs]).run P w = .ok v' w') (h : K (a.put o.dst v') w') : o.wp P a w K Q := by
  unfold Oper.wp execOp
  simp only [ho, resolve, invoke, builtin, Sem.run_bind, Sem.run_pure, Result.andThen_ok, List.map_toArray, List.map_cons, List.map_nil, hs, hr]
  exact h
theorem wpList_clear_run (w : World) {ops : Array Oper} {rest : List Oper} {o : Oper} {a : Act} {Q : Exit → Act → World → Prop} (hgd : o.guard = none) (s : Operand) (t : TypeId)
    (ho : o.op = .call { callee := .builtin .clear, args := #[s], argTypes := #[t] }) (vs : Value) (hs : a.eval s = vs)
    (v' : Value) (w' : World) (hr : (Builtin.clear_ #[t] o.type #[vs]).run P w = .ok v' w') (h : wpList P ops Q rest (a.put o.dst v') w') : wpList P ops Q (o :: rest) a w :=
  wpList_plain hgd fun _ hK => wp_clear_run w s t ho vs hs v' w' hr (hK _ _ h)
end
/-- What stays of a list when a pack goes. -/
def keeps (p : ByteArray) (x : It) : Bool := !(x.pack.toList == p.toList)
/-- How far the sweep has come: of the first j items those that stay lie in the first i places. -/
structure Swept (c0 : List Value) (xs : List It) (p : ByteArray) (r i j : Nat) (cur : List Value) : Prop where
  hj : j ≤ xs.length
  hr : r < j
  hi : i = ((xs.take j).filter (keeps p)).length
  size : cur.length = c0.length
  pre : cur.take (i * 6) = flat ((xs.take j).filter (keeps p))
  post : cur.drop (j * 6) = c0.drop (j * 6)
theorem Swept.le {c0 : List Value} {xs : List It} {p : ByteArray} {r i j : Nat} {cur : List Value} (h : Swept c0 xs p r i j cur) : i ≤ j := by
  have := List.length_filter_le (keeps p) (xs.take j)
  have h1 := h.hi
  simp at this
  omega
theorem Swept.start {c0 : List Value} {xs : List It} {p : ByteArray} {r : Nat} {x : It} (hc : c0.take (xs.length * 6) = flat xs) (hlo : ∀ i x, i < r → xs[i]? = some x → (x.pack.toList == p.toList) = false) (hx : xs[r]? = some x) (hp : (x.pack.toList == p.toList) = true) :
    Swept c0 xs p r r (r + 1) c0 := by
  have hr : r < xs.length := (List.getElem?_eq_some_iff.1 hx).1
  have hf : (xs.take (r + 1)).filter (keeps p) = xs.take r := by
    rw [List.take_add_one, hx]
    simp only [Option.toList_some, List.filter_append, List.filter_cons, List.filter_nil]
    rw [if_neg (by simp only [keeps, hp]; simp), List.append_nil, List.filter_eq_self]
    intro y hy
    obtain ⟨i, hi⟩ := List.getElem?_of_mem hy
    rw [List.getElem?_take] at hi
    split at hi
    · simp only [keeps, hlo i y (by assumption) hi]; rfl
    · cases hi
  refine ⟨by omega, by omega, ?_, rfl, ?_, rfl⟩
  · rw [hf]; simp; omega
  · rw [hf, flat_take, ← hc, List.take_take]
    congr 1
    omega
theorem Swept.skip {c0 : List Value} {xs : List It} {p : ByteArray} {r i j : Nat} {cur : List Value} {x : It} (h : Swept c0 xs p r i j cur) (hx : xs[j]? = some x) (hp : keeps p x = false) : Swept c0 xs p r i (j + 1) cur := by
  have hjl : j < xs.length := (List.getElem?_eq_some_iff.1 hx).1
  have hf : (xs.take (j + 1)).filter (keeps p) = (xs.take j).filter (keeps p) := by
    rw [List.take_add_one, hx]
    simp [List.filter_append, hp]
  refine ⟨by omega, by have := h.hr; omega, by rw [hf]; exact h.hi, h.size, by rw [hf]; exact h.pre, ?_⟩
  have := congrArg (List.drop 6) h.post
  rw [List.drop_drop, List.drop_drop] at this
  rw [show (j + 1) * 6 = j * 6 + 6 by omega]
  exact this
theorem Swept.keep {c0 : List Value} {xs : List It} {p : ByteArray} {r i j : Nat} {cur : List Value} {x : It} (h : Swept c0 xs p r i j cur) (hl : xs.length * 6 ≤ c0.length) (hx : xs[j]? = some x) (hp : keeps p x = true) :
    Swept c0 xs p r (i + 1) (j + 1) (splice cur (i * 6) x.cells) := by
  have hjl : j < xs.length := (List.getElem?_eq_some_iff.1 hx).1
  have hle := h.le
  have hs := h.size
  have hx6 : x.cells.length = 6 := rfl
  have hf : (xs.take (j + 1)).filter (keeps p) = (xs.take j).filter (keeps p) ++ [x] := by
    rw [List.take_add_one, hx]
    simp [List.filter_append, hp]
  refine ⟨by omega, by have := h.hr; omega, ?_, ?_, ?_, ?_⟩
  · rw [hf, List.length_append, ← h.hi]; rfl
  · rw [length_splice _ _ _ (by omega)]; exact hs
  · rw [hf]
    unfold splice
    rw [← List.append_assoc, List.take_append_of_le_length (by simp [hx6]; omega), List.take_of_length_le (by simp [hx6]; omega), h.pre]
    simp [flat]
  · have := congrArg (List.drop 6) h.post
    rw [List.drop_drop, List.drop_drop] at this
    rw [show (j + 1) * 6 = j * 6 + 6 by omega, ← this]
    unfold splice
    rw [List.drop_append, List.drop_append, List.drop_eq_nil_of_le (by simp; omega), List.drop_eq_nil_of_le (by simp [hx6]; omega), List.drop_drop]
    simp only [List.nil_append]
    congr 1
    simp [hx6]
    omega
theorem Swept.cells {w : World} {g : Nat} {c0 : List Value} {xs : List It} {p : ByteArray} {r i j : Nat} {cur : Array Value} {x : It} (h : Swept c0 xs p r i j cur.toList) (hc : c0.take (xs.length * 6) = flat xs) (hx : xs[j]? = some x)
    (hg : w.heap[g]? = some (.cells cur 32 (0, 0))) : CellsAt w g (j * 6) x := by
  have hjl : j < xs.length := (List.getElem?_eq_some_iff.1 hx).1
  have hc6 := fun m (hm : m < 6) u (hu : x.cells[m]? = some u) => by
    have h1 := flat_get xs j m x hx hm
    rw [← hc, List.getElem?_take, if_pos (by omega)] at h1
    have h2 := congrArg (fun l => l[m]?) h.post
    simp only [List.getElem?_drop] at h2
    have h3 : w.cell? ⟨g, j * 6 + m, none⟩ = some u := by
      rw [cell_of_row w g _ _ _ (0, 0) hg, ← Array.getElem?_toList, h2, h1, hu]
    exact h3
  exact ⟨hc6 0 (by omega) _ rfl, hc6 1 (by omega) _ rfl, hc6 2 (by omega) _ rfl, hc6 3 (by omega) _ rfl, hc6 4 (by omega) _ rfl, hc6 5 (by omega) _ rfl⟩
def zeroItem : Value := .agg #[.string { data := #[] }, .string { data := #[] }, .int .i64 0, .int .i64 0, .int .i64 0, .int .i64 0]
theorem zeros_one (n : Nat) : (Builtin.zeroCells zeroItem.cells n).size = n * 6 ∧ ∀ v ∈ (Builtin.zeroCells zeroItem.cells n).toList, v.oneCell' = true := by
  refine ⟨by simp [Builtin.zeroCells, zeroItem, Value.cells], ?_⟩
  intro v hv
  simp only [Builtin.zeroCells, zeroItem, Value.cells, Array.toList_map, List.mem_map] at hv
  obtain ⟨a, _, rfl⟩ := hv
  have : a % 6 < 6 := Nat.mod_lt _ (by omega)
  show (#[Value.string { data := #[] }, .string { data := #[] }, .int .i64 0, .int .i64 0, .int .i64 0, .int .i64 0][a % 6]!).oneCell' = true
  generalize a % 6 = m at this
  match m, this with
  | 0, _ => rfl
  | 1, _ => rfl
  | 2, _ => rfl
  | 3, _ => rfl
  | 4, _ => rfl
  | 5, _ => rfl
theorem lt_of_cell {w : World} {q : Nat} {u : Value} (hq : w.cell? ⟨q, 0, none⟩ = some u) : q < w.heap.size := by
  rcases Nat.lt_or_ge q w.heap.size with h' | h'
  · exact h'
  · simp [World.cell?, Array.getElem?_eq_none h'] at hq
/-- The sweep's memory. -/
structure Sweep (w : World) (g : Nat) (c0 : List Value) (xs : List It) (p : ByteArray) (r i j : Nat) (wr : World) : Prop where
  row : ∃ cur : Array Value, wr.heap[g]? = some (.cells cur 32 (0, 0)) ∧ Swept c0 xs p r i j cur.toList
  but : But (fun k => k = g) w wr
theorem Sweep.below {w : World} {g : Nat} {c0 : List Value} {xs : List It} {p : ByteArray} {r i j : Nat} {wr w1 : World} (h : Sweep w g c0 xs p r i j wr) (hb : Below wr.heap.size wr w1) : Sweep w g c0 xs p r i j w1 := by
  obtain ⟨⟨cur, h1, h2⟩, h3⟩ := h
  exact ⟨⟨cur, (hb.block _ (Array.getElem?_eq_some_iff.1 h1).1).trans h1, h2⟩, h3.trans (But.of_below hb)⟩
/-- What the store of an item asks for. -/
structure Room (w : World) (g o : Nat) : Prop where
  c : ∃ y0 y1 y2 y3 y4 y5, w.cell? ⟨g, o, none⟩ = some y0 ∧ w.cell? ⟨g, o + 1, none⟩ = some y1 ∧ w.cell? ⟨g, o + 2, none⟩ = some y2 ∧ w.cell? ⟨g, o + 3, none⟩ = some y3 ∧ w.cell? ⟨g, o + 4, none⟩ = some y4 ∧ w.cell? ⟨g, o + 5, none⟩ = some y5
  f : ∀ o, w.frozen? ⟨g, o, none⟩ = false
theorem Room.of {w : World} {g o : Nat} {cur : Array Value} {t : TypeId} (h : w.heap[g]? = some (.cells cur t (0, 0))) (ho : o + 6 ≤ cur.size) : Room w g o := by
  have hc : ∀ k, (hk : k < cur.size) → w.cell? ⟨g, k, none⟩ = some cur[k] := fun k hk => by rw [cell_of_row w g k _ _ (0, 0) h]; simp [hk]
  exact ⟨⟨_, _, _, _, _, _, hc o (by omega), hc (o + 1) (by omega), hc (o + 2) (by omega), hc (o + 3) (by omega), hc (o + 4) (by omega), hc (o + 5) (by omega)⟩, fun k => by simp [World.frozen?, h]⟩
theorem Sweep.store {w : World} {g : Nat} {c0 : List Value} {xs : List It} {p : ByteArray} {r i j : Nat} {wr : World} {x : It} (h : Sweep w g c0 xs p r i j wr) (hl : xs.length * 6 ≤ c0.length) (hx : xs[j]? = some x) (hp : keeps p x = true) :
    Sweep w g c0 xs p r (i + 1) (j + 1) (wr.setCells g (i * 6) x.cells) := by
  obtain ⟨⟨cur, h1, h2⟩, h3⟩ := h
  have hjl : j < xs.length := (List.getElem?_eq_some_iff.1 hx).1
  have hle := h2.le
  have hs : cur.size = c0.length := by simpa using h2.size
  have hx6 : x.cells.length = 6 := rfl
  rw [setCells_row wr g (i * 6) cur 32 x.cells h1 (by omega) (cells_one x)]
  refine ⟨⟨_, setRow_heap _ _ _ _ _ _ h1, h2.keep hl hx hp⟩, h3.os, h3.tape, h3.output, by simpa [World.setRow] using h3.size, fun k hk hne => ?_⟩
  rw [setRow_other _ _ _ _ hne]
  exact h3.block k hk hne
theorem item_zero (w : World) : (zeroValue 32).run Try.prog w = .ok zeroItem w := by
  obtain ⟨i0, hi0, iz0, iz1, iz2⟩ := info_parts item_info
  simp [zeroValue, typeInfo, hi0, iz0]
  rfl
theorem Sweep.end_ {w : World} {g cap : Nat} {cur0 : Array Value} {xs : List It} {p : ByteArray} {r i : Nat} {wr : World} (h : Sweep w g cur0.toList xs p r i xs.length wr) (hi : i < xs.length) (hcap : xs.length ≤ cap) (hm : cap ≤ maxLen) (hcs : cur0.size = cap * 6) :
    ∃ w', (∀ ty c, (Builtin.clear_ #[35] ty #[.slice (some ⟨g, i * 6, none⟩) (xs.length - i) c]).run Try.prog wr = .ok (.tuple #[]) w') ∧ Inserted w (.slice (some ⟨g, 0, none⟩) xs.length cap) (xs.filter (keeps p)) (.returned (.slice (some ⟨g, 0, none⟩) i cap)) w' := by
  obtain ⟨⟨cur, h1, h2⟩, h3⟩ := h
  have hs : cur.size = cap * 6 := by have := h2.size; simp at this; omega
  obtain ⟨z0, z1⟩ := zeros_one (xs.length - i)
  refine ⟨_, fun ty c => run_clear_k wr 35 32 ty zeroItem Try.underlying35 (item_zero _) g (i * 6) (xs.length - i) c (by omega) cur 32 h1 (by omega) z1, ?_⟩
  have hf := h2.hi
  have hpre := h2.pre
  rw [List.take_of_length_le (Nat.le_refl _)] at hf hpre
  refine ⟨_, rfl, ⟨flat_length _, .inr ⟨g, cap, _, by rw [← hf], Nat.zero_le _, setRow_heap _ _ _ _ _ _ h1, by omega, hm, ?_, ?_⟩⟩, ⟨h3.os, h3.tape, h3.output, by simpa [World.setRow] using h3.size, fun k hk hne => ?_⟩, .inl rfl⟩
  · simp only [List.size_toArray]
    rw [length_splice _ _ _ (by simp; omega)]
    simpa using hs
  · rw [← hf]
    show (splice cur.toList (i * 6) _).take (i * 6) = _
    unfold splice
    rw [List.take_append_of_le_length (by simp; omega), List.take_of_length_le (by simp; omega)]
    exact hpre
  · have hkg : k ≠ g := by simpa [Value.ownBlock, eq_comm] using hne
    rw [setRow_other _ _ _ _ hkg]
    exact h3.block k hk hkg
theorem Inserted.same {w w1 : World} {v : Value} {xs : List It} (h : Row w v xs) (hb : Below w.heap.size w w1) : Inserted w v xs (.returned v) w1 :=
  ⟨v, rfl, row_block h fun g hg => hb.block g (row_lt h hg), ⟨hb.os, hb.tape, hb.output, hb.size, fun k hk _ => hb.block k hk⟩, .inl rfl⟩
set_option maxHeartbeats 1000000 in
set_option maxRecDepth 100000 in
theorem delete_any (v : Value) (q : Nat) (xs : List It) (p : ByteArray) (w : World) (hn : xs.length ≤ 65536) (hv : Row w v xs) (hq : w.cell? ⟨q, 0, none⟩ = some (.string p)) (hqg : v.ownBlock ≠ some q) :
    Calls Try.prog 32 #[v, .func (.func 33) #[] #[.pointer (some ⟨q, 0, none⟩)]] w (Inserted w v (xs.filter (keeps p))) := by
  rcases hv.2 with ⟨rfl, h⟩ | ⟨g, cap, cur0, rfl, _, hg, hcap, hm, hcs, hct⟩
  · have : xs = [] := List.eq_nil_of_length_eq_zero h
    subst this
    have HI := Lib.hid (index_nil q w)
    have HV := Lib.hid hv
    clear hq hqg hv h
    go_enter Try.func32, Try.ntmps32
    go_wp2_with fail
    refine Calls.mono HI.out ?_
    rintro e w1 ⟨rfl, hb⟩
    have HF : Hid (Inserted w (.slice none 0 0) [] (.returned (.slice none 0 0)) w1) := Inserted.same HV.out hb
    clear hb HI
    go_wp2
    go_ret
    exact HF.out
  · obtain ⟨r, hr⟩ : ∃ r, (xs.takeWhile (keeps p)).length = r := ⟨_, rfl⟩
    have hrl : r ≤ xs.length := by rw [← hr]; exact takeWhile_le _ _
    have hlo : ∀ i x, i < r → xs[i]? = some x → (x.pack.toList == p.toList) = false := fun i x hi hx => by
      obtain ⟨y, _, h2, h3⟩ := takeWhile_at (keeps p) xs i (by rw [hr]; exact hi)
      rw [hx] at h2
      cases h2
      simpa [keeps] using h3
    have hhi : ∀ x, xs[r]? = some x → (x.pack.toList == p.toList) = true := fun x hx => by
      have := takeWhile_stop (keeps p) xs x (by rw [hr]; exact hx)
      simpa [keeps] using this
    have hglt : g < w.heap.size := (Array.getElem?_eq_some_iff.1 hg).1
    have hqlt := lt_of_cell hq
    have HI := Lib.hid (index_any g cap q r xs p w hn hglt (fun i x hx => hv.at_ rfl hx) hq hrl hlo hhi)
    have hqg' : g ≠ q := by simpa [Value.ownBlock] using hqg
    have HV := Lib.hid hv
    have HQ := Lib.hid hq
    have HG := Lib.hid hg
    have HCT := Lib.hid hct
    have HCS := Lib.hid hcs
    have HLO := Lib.hid hlo
    have HHI := Lib.hid hhi
    have HTW := Lib.hid hr
    clear hqg hv hq hg hct hcs hlo hhi hr
    go_enter Try.func32, Try.ntmps32
    go_wp2_with fail
    refine Calls.mono HI.out ?_
    rintro e w1 ⟨rfl, hb⟩
    have HB := Lib.hid hb
    clear hb HI
    by_cases hrn : r = xs.length
    · have hix : idxV r xs.length = .int .i64 (-1) := by unfold idxV; rw [if_pos hrn]
      rw [hix]
      have HF : Hid (Inserted w (.slice (some ⟨g, 0, none⟩) xs.length cap) (xs.filter (keeps p)) (.returned (.slice (some ⟨g, 0, none⟩) xs.length cap)) w1) := by
        have : xs.filter (keeps p) = xs := by
          rw [List.filter_eq_self]
          intro x hx
          obtain ⟨i, hi⟩ := List.getElem?_of_mem hx
          have hil : i < xs.length := (List.getElem?_eq_some_iff.1 hi).1
          simp only [keeps, HLO.out i x (by omega) hi]; rfl
        rw [this]
        exact Inserted.same HV.out HB.out
      go_wp2
      go_ret
      exact HF.out
    · have hix : idxV r xs.length = .int .i64 (r : Int) := by unfold idxV; rw [if_neg hrn]
      rw [hix]
      have hne : ((r : Int) == -1) = false := by simp
      have hrn' : r < xs.length := by omega
      obtain ⟨y, hy⟩ : ∃ y, xs[r]? = some y := ⟨_, List.getElem?_eq_getElem hrn'⟩
      have HS : Hid (Sweep w g cur0.toList xs p r r (r + 1) w1) := Lib.hid ⟨⟨cur0, (HB.out.block g hglt).trans HG.out, Swept.start HCT.out HLO.out hy (HHI.out y hy)⟩, But.of_below HB.out⟩
      clear hy
      go_wp2
      go_loopw [5, 6] (fun a b wr => ∃ i j : Nat, a = .int .i64 i ∧ b = .int .i64 j ∧ i < j ∧ j ≤ xs.length ∧ Sweep w g cur0.toList xs p r i j wr) (fun _ b _ => xs.length - (intOf b).toNat)
      case atStart => exact ⟨r, r + 1, rfl, by go_num, by omega, by omega, HS.out⟩
      case round =>
        obtain ⟨i, j, rfl, rfl, hij, hjn, hsw⟩ := hrel
        clear HS HB
        by_cases hjl : j < xs.length
        · obtain ⟨x, hx⟩ : ∃ x, xs[j]? = some x := ⟨_, List.getElem?_eq_getElem hjl⟩
          obtain ⟨⟨cur, hcur, hswept⟩, hbut⟩ := id hsw
          obtain ⟨e0, e1, e2, e3, e4, e5⟩ := hswept.cells HCT.out hx hcur
          have hqr : wr.cell? ⟨q, 0, none⟩ = some (.string p) := by
            rw [World.cell?_of_block (w := w) (hbut.block q hqlt (fun e => hqg' e.symm))]
            exact HQ.out
          have HQR := Lib.hid hqr
          have HSW := Lib.hid hsw
          have HX := Lib.hid hx
          have hgr : g < wr.heap.size := (Array.getElem?_eq_some_iff.1 hcur).1
          have hgne : g ≠ wr.heap.size := by omega
          have hcsz : xs.length * 6 ≤ cur.size := by have h1 := hswept.size; have h2 := HCS.out; simp at h1; omega
          obtain ⟨t, ht⟩ : ∃ t, (x.pack.toList == p.toList) = t := ⟨_, rfl⟩
          have HD := fun W hW => Lib.hid (drop1_any x q p W hW)
          rw [ht] at HD
          have HT := Lib.hid ht
          clear hsw hswept hbut hcur hqr hx ht
          go_wp2_with fail
          refine Calls.mono (HD _ ?_).out ?_
          · rw [World.cell?_of_block (w := wr) (Below.heap_alloc wr _ q (lt_of_cell HQR.out))]
            exact HQR.out
          rintro e w2 ⟨rfl, hb2⟩
          have HSW2 : Hid (Sweep w g cur0.toList xs p r i j w2) := HSW.out.below (((Below.refl _ _).alloc (Nat.le_refl _) _).trans (hb2.mono (by simp)))
          obtain ⟨d0, d1, d2, d3, d4, d5⟩ := (CellsAt.new wr x).below hb2 (by simp)
          clear HSW HQR HD hb2 e0 e1 e2 e3 e4 e5
          cases t with
          | true =>
            go_wp2
            go_roundw
            case rel => exact ⟨i, j + 1, rfl, by go_num, by omega, by omega, by
              obtain ⟨⟨cur, h1, h2⟩, h3⟩ := HSW2.out
              exact ⟨⟨cur, h1, h2.skip HX.out (by simp [keeps, HT.out])⟩, h3⟩⟩
            case measure => simp [intOf]; omega
          | false =>
            obtain ⟨⟨y0, y1, y2, y3, y4, y5, a0, a1, a2, a3, a4, a5⟩, hfr⟩ : Room w2 g (i * 6) := by
              obtain ⟨⟨cur, h1, h2⟩, h3⟩ := HSW2.out
              have hs : cur.size = cap * 6 := by have h3 := h2.size; have h4 := HCS.out; simp at h3; omega
              exact Room.of h1 (by omega)
            have f0 := hfr (i * 6)
            have f1 := hfr (i * 6 + 1)
            have f2 := hfr (i * 6 + 2)
            have f3 := hfr (i * 6 + 3)
            have f4 := hfr (i * 6 + 4)
            have f5 := hfr (i * 6 + 5)
            have HST := Lib.hid (HSW2.out.store (x := x) (by have := HCS.out; simp; omega) HX.out (by simp [keeps, HT.out]))
            clear hfr HSW2
            go_wp2
            go_roundw
            case rel => exact ⟨i + 1, j + 1, by go_num, by go_num, by omega, by omega, HST.out⟩
            case measure => simp [intOf]; omega
        · have hjn' : j = xs.length := by omega
          subst hjn'
          obtain ⟨w2, hclr, hins⟩ := hsw.end_ hij hcap hm HCS.out
          have HINS := Lib.hid hins
          have hic : i ≤ cap := by omega
          clear hsw hins
          go_wp2_with (at_builtin; refine wpList_clear_run _ rfl (.tmp 38) _ rfl _ rfl _ _ (hclr _ _) ?_)
          go_ret
          exact HINS.out
end Go.Proofs.Ytgigihlmpdpggaa
