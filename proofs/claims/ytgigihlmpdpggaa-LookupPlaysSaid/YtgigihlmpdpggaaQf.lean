import Derived.Test.YtgigihlmpdpggaaQe
import Derived.Test.YtgigihlmpdpggaaLkV
namespace Go.Proofs.Ytgigihlmpdpggaa
open Go.RowKit
theorem place_push (B : Nat) (wr : World) (o : Value) (k : Nat) (ks : List Value) (x : It) (hown : wr.ownsRow B 30 5 o k ks) (hB : B ≤ wr.heap.size) (hk : k ≤ 65536) :
    ∃ v' w', (Builtin.append_ #[69, 69] 69 #[o, .slice (some ⟨wr.heap.size, 0, none⟩) 1 1]).run Try.prog (wr.alloc (.cells #[.string x.pack, .int .i64 x.kind, .int .i64 x.off, .int .i64 x.long, .int .i64 x.size] 30)) = .ok v' w' ∧
      w'.ownsRow B 30 5 v' (k + 1) (ks ++ x.pcells) ∧ ∀ a, Below B a wr → Below B a w' := by
  obtain ⟨p0, hp0, pz0, pz1, pz2⟩ := info_parts place_info
  have hq5 := heap_alloc_new wr (.cells #[.string x.pack, .int .i64 x.kind, .int .i64 x.off, .int .i64 x.long, .int .i64 x.size] 30)
  obtain ⟨v', w', hrun, hrow', hgrow, _, _⟩ := run_append_own_at (P := Try.prog) (wr.alloc (.cells #[.string x.pack, .int .i64 x.kind, .int .i64 x.off, .int .i64 x.long, .int .i64 x.size] 30)) B 69 69 30 p0 _ 5 48 Try.underlying69 hp0 pz0 pz1 pz2 rfl (by omega) o k ks (hown.alloc _) ⟨wr.heap.size, 0, none⟩ 1 1 x.pcells rfl
    (fun j u hu => by rw [add_zero', cell_of_row _ _ j _ _ (0, 0) hq5]; simpa [It.pcells] using hu) (pcells_one x) (by unfold maxLen; omega) (by omega) (by simp; omega)
  exact ⟨v', w', hrun, hrow', fun a ha => (ha.alloc hB _).grown hgrow (by simp; omega) fun g hg => (hown.lt g hg).1⟩
theorem text_push (B : Nat) (wr : World) (o : Value) (k : Nat) (ks : List Value) (s : ByteArray) (hown : wr.ownsRow B 9 1 o k ks) (hB : B ≤ wr.heap.size) (hk : k ≤ 65536) :
    ∃ v' w', (Builtin.append_ #[41, 41] 41 #[o, .slice (some ⟨wr.heap.size, 0, none⟩) 1 1]).run Try.prog (wr.alloc (.cells #[.string s] 9)) = .ok v' w' ∧
      w'.ownsRow B 9 1 v' (k + 1) (ks ++ [.string s]) ∧ ∀ a, Below B a wr → Below B a w' := by
  obtain ⟨p0, hp0, pz0, pz1, pz2⟩ := info_parts str_info
  have hq5 := heap_alloc_new wr (.cells #[.string s] 9)
  obtain ⟨v', w', hrun, hrow', hgrow, _, _⟩ := run_append_own_at (P := Try.prog) (wr.alloc (.cells #[.string s] 9)) B 41 41 9 p0 _ 1 16 Try.underlying41 hp0 pz0 pz1 pz2 rfl (by omega) o k ks (hown.alloc _) ⟨wr.heap.size, 0, none⟩ 1 1 [.string s] rfl
    (fun j u hu => by rw [add_zero', cell_of_row _ _ j _ _ (0, 0) hq5]; simpa using hu) (by intro u hu; simp at hu; subst hu; rfl) (by unfold maxLen; omega) (by omega) (by simp; omega)
  exact ⟨v', w', hrun, hrow', fun a ha => (ha.alloc hB _).grown hgrow (by simp; omega) fun g hg => (hown.lt g hg).1⟩
theorem item_push (B : Nat) (wr : World) (o : Value) (k : Nat) (ks : List Value) (x : It) (hown : wr.ownsRow B 32 6 o k ks) (hB : B ≤ wr.heap.size) (hk : k ≤ 65536) :
    ∃ v' w', (Builtin.append_ #[35, 35] 35 #[o, .slice (some ⟨wr.heap.size, 0, none⟩) 1 1]).run Try.prog (wr.alloc (.cells #[.string x.id, .string x.pack, .int .i64 x.kind, .int .i64 x.off, .int .i64 x.long, .int .i64 x.size] 32)) = .ok v' w' ∧
      w'.ownsRow B 32 6 v' (k + 1) (ks ++ x.cells) ∧ ∀ a, Below B a wr → Below B a w' := by
  obtain ⟨v', w', hrun, hrow', hgrow, _, _⟩ := append_items B _ o k 1 1 ks _ [x] (hown.alloc _) (one_item wr x) rfl (by simp; omega) (by omega)
  exact ⟨v', w', hrun, by simpa [flat] using hrow', fun a ha => (ha.alloc hB _).grown hgrow (by simp; omega) fun g hg => (hown.lt g hg).1⟩
theorem row_items_at {w w' : World} {B : Nat} {A : Option Addr} {n c k : Nat} {l : List It} {x : It} (h : Row w (.slice A n c) l) (hb : Below w.heap.size w w') (hx : l[k]? = some x) (hB : B = w.heap.size) : ∃ g, A = some ⟨g, 0, none⟩ ∧ g < B ∧ CellsAt w' g (k * 6) x := by
  obtain ⟨cap, ⟨_, rfl⟩ | ⟨g, e, ho, hg, _⟩⟩ := h.form'
  · simp at hx
  · injection e with e1 _ _
    exact ⟨g, e1, by omega, (h.at_ ho hx).below hb hg⟩
theorem filter_take_succ {α : Type} (f : α → Bool) (l : List α) (k : Nat) (x : α) (hx : l[k]? = some x) : (l.take (k + 1)).filter f = (l.take k).filter f ++ if f x then [x] else [] := by
  rw [List.take_add_one, hx, List.filter_append]
  simp only [Option.toList_some, List.filter_cons, List.filter_nil]
def hasId (s : ByteArray) (x : It) : Bool := x.id.toList == s.toList
set_option maxHeartbeats 2000000 in
set_option maxRecDepth 100000 in
theorem rplaces_any (p : Nat) (v : Value) (l : List It) (s : ByteArray) (w : World) (ht : RTab w p v l) (hn : l.length ≤ 65536) :
    Calls Try.prog 39 #[.pointer (some ⟨p, 0, none⟩), .string s] w (Placed w (l.filter (hasId s))) := by
  obtain ⟨A, c, hv⟩ := ht.row.lenV
  obtain ⟨n, hnl⟩ : ∃ n, l.length = n := ⟨_, rfl⟩
  rw [hnl] at hv hn
  subst hv
  have HNL := Lib.hid hnl
  have HT := Lib.hid ht
  clear hnl ht
  go_enter Try.func39, Try.ntmps39
  go_wp2
  go_loopw [5, 6] (fun o a wr => ∃ k : Nat, a = .int .i64 k ∧ k ≤ n ∧ wr.ownsRow w.heap.size 30 5 o ((l.take k).filter (hasId s)).length (pflat ((l.take k).filter (hasId s))) ∧ Below w.heap.size w wr) (fun _ a _ => n - (intOf a).toNat)
  case atStart => exact ⟨0, rfl, Nat.zero_le _, by simpa [pflat] using World.ownsRow_nil _ _ _ _, Below.refl _ _⟩
  case round =>
    obtain ⟨k, rfl, hk, hown, hb⟩ := hrel
    have hcell := (HT.out.below hb).cell
    by_cases hkn : k < n
    · obtain ⟨x, hx⟩ : ∃ x, l[k]? = some x := ⟨_, List.getElem?_eq_getElem (by rw [HNL.out]; omega)⟩
      obtain ⟨g, rfl, hg, t0, t1, t2, t3, t4, t5⟩ := row_items_at HT.out.row hb hx rfl
      have hfl : ((l.take k).filter (hasId s)).length ≤ 65536 := by
        have := List.length_filter_le (hasId s) (l.take k)
        have : (l.take k).length ≤ k := List.length_take_le _ _
        omega
      have hfs := filter_take_succ (hasId s) l k x hx
      by_cases hid : (x.id.toList == s.toList) = true
      · rw [show hasId s x = true from hid, if_pos rfl] at hfs
        obtain ⟨v', w', hrun, hrow', hbel⟩ := place_push w.heap.size wr _ _ _ x hown hb.size hfl
        have HB := Lib.hid (hbel w hb)
        have hr2 : w'.ownsRow w.heap.size 30 5 v' ((l.take (k + 1)).filter (hasId s)).length (pflat ((l.take (k + 1)).filter (hasId s))) := by
          rw [hfs, pflat_snoc, List.length_append]; exact hrow'
        have HR := Lib.hid hr2
        clear hx hown hb hfs hrow' hbel hr2 hfl
        go_wp2_with (at_builtin; refine Lib.wpList_append_run _ rfl (.tmp 26) (.tmp 35) _ _ rfl _ _ rfl rfl _ _ hrun ?_)
        go_roundw
        case rel => exact ⟨k + 1, by go_num, by omega, HR.out, HB.out⟩
        case measure => simp [intOf]; omega
      · have hid2 : (x.id.toList == s.toList) = false := by simpa using hid
        rw [show hasId s x = false from hid2, if_neg (by decide), List.append_nil] at hfs
        have HB := Lib.hid hb
        have hr2 : wr.ownsRow w.heap.size 30 5 u5 ((l.take (k + 1)).filter (hasId s)).length (pflat ((l.take (k + 1)).filter (hasId s))) := by
          rw [hfs]; exact hown
        have HR := Lib.hid hr2
        clear hx hown hb hfs hr2 hfl hid
        go_wp2
        go_roundw
        case rel => exact ⟨k + 1, by go_num, by omega, HR.out, HB.out⟩
        case measure => simp [intOf]; omega
    · have HF : Hid (Placed w (l.filter (hasId s)) (.returned u5) wr) := by
        rw [List.take_of_length_le (by rw [HNL.out]; omega)] at hown
        exact ⟨_, rfl, hown, hb⟩
      clear hown hb
      go_wp2
      go_ret
      exact HF.out
end Go.Proofs.Ytgigihlmpdpggaa
