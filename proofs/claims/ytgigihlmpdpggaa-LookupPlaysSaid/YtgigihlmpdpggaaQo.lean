import Derived.Test.YtgigihlmpdpggaaQn
namespace Go.Proofs.Ytgigihlmpdpggaa
open Go.RowKit
/-- A table and the document's one, which share no block. -/
structure TR (B : Nat) (w0 w : World) (t r : Nat) (V : List Value) (v : Value) (L : List (List It)) (l : List It) : Prop where
  ta : Tab w t V L
  tb : RTab w r v l
  sep : ∀ g, Own t V g → ¬ ROwn r v g
  hia : ∀ g, Own t V g → B ≤ g
  hib : ∀ g, ROwn r v g → B ≤ g
  low : Below B w0 w
theorem TR.le {B : Nat} {w0 w : World} {t r : Nat} {V : List Value} {v : Value} {L : List (List It)} {l : List It} (h : TR B w0 w t r V v L l) : B ≤ w.heap.size :=
  Nat.le_of_lt (Nat.lt_of_le_of_lt (h.hia t (.inl rfl)) h.ta.lt)
theorem TR.below {B : Nat} {w0 w w' : World} {t r : Nat} {V : List Value} {v : Value} {L : List (List It)} {l : List It} (h : TR B w0 w t r V v L l) (hb : Below w.heap.size w w') : TR B w0 w' t r V v L l :=
  ⟨h.ta.kept fun g hg => hb.block g (h.ta.own_lt hg), h.tb.below hb, h.sep, h.hia, h.hib, h.low.trans (hb.mono h.le)⟩
theorem TR.setT {B : Nat} {w0 w w' : World} {t r : Nat} {V V' : List Value} {v : Value} {L L' : List (List It)} {l : List It} (h : TR B w0 w t r V v L l) (ht : Tab w' t V' L') (hbut : But (Own t V) w w')
    (hown : ∀ g, Own t V' g → Own t V g ∨ w.heap.size ≤ g) : TR B w0 w' t r V' v L' l := by
  refine ⟨ht, h.tb.kept fun g hg => hbut.block g (h.tb.own_lt hg) fun hs => h.sep g hs hg, ?_, ?_, h.hib, hbut.low h.low h.le h.hia⟩
  · intro g hg hg2
    rcases hown g hg with h1 | h1
    · exact h.sep g h1 hg2
    · have := h.tb.own_lt hg2; omega
  · intro g hg
    rcases hown g hg with h1 | h1
    · exact h.hia g h1
    · have := h.le; omega
theorem TR.setR {B : Nat} {w0 w w' : World} {t r : Nat} {V : List Value} {v v' : Value} {L : List (List It)} {l l' : List It} (h : TR B w0 w t r V v L l) (ht : RTab w' r v' l') (hbut : But (· = r) w w')
    (hown : ∀ g, ROwn r v' g → ROwn r v g ∨ w.heap.size ≤ g) : TR B w0 w' t r V v' L l' := by
  refine ⟨h.ta.kept fun g hg => hbut.block g (h.ta.own_lt hg) fun hs => h.sep g hg (.inl hs), ht, ?_, h.hia, ?_, hbut.low h.low h.le fun g hg => h.hib g (.inl hg)⟩
  · intro g hg hg2
    rcases hown g hg2 with h1 | h1
    · exact h.sep g hg h1
    · have := h.ta.own_lt hg; omega
  · intro g hg
    rcases hown g hg with h1 | h1
    · exact h.hib g h1
    · have := h.le; omega
/-- The two have the same items, so many at most. -/
structure Same (L : List (List It)) (l : List It) (S : It → Prop) (m : Nat) : Prop where
  fine : Fine L S
  flat : L.flatten = l
  few : l.length ≤ m
theorem mem_flatten_length {L : List (List It)} : ∀ xs ∈ L, xs.length ≤ L.flatten.length := by
  intro xs hx
  exact (List.sublist_flatten_of_mem hx).length_le
theorem Same.len {L : List (List It)} {l : List It} {S : It → Prop} {m : Nat} (h : Same L l S m) : ∀ xs ∈ L, xs.length ≤ l.length := fun xs hx => by
  rw [← h.flat]; exact mem_flatten_length xs hx
theorem Same.add {L : List (List It)} {l : List It} {S : It → Prop} {m : Nat} (h : Same L l S m) (ys : List It) : Same (ys.foldl addOne L) (insAll l ys) (fun x => x ∈ ys ∨ S x) (m + ys.length) :=
  ⟨h.fine.addAll ys, by rw [add_same h.fine, h.flat], by have := insAll_length ys l; have := h.few; omega⟩
theorem Same.drop {L : List (List It)} {l : List It} {S : It → Prop} {m : Nat} (h : Same L l S m) (p : ByteArray) : Same (L.map (·.filter (keeps p))) (l.filter (keeps p)) (fun x => S x ∧ keeps p x = true) m :=
  ⟨h.fine.filter p, by rw [drop_same, h.flat], by have := List.length_filter_le (keeps p) l; have := h.few; omega⟩
/-- What befalls a table. -/
structure Act where
  kind : Int
  addr : Option Addr
  cap : Nat
  items : List It
structure ActAt (w : World) (g o : Nat) (a : Act) : Prop where
  kind : w.cell? ⟨g, o, none⟩ = some (.int .i64 a.kind)
  list : w.cell? ⟨g, o + 1, none⟩ = some (.slice a.addr a.items.length a.cap)
  its : ItemsAt w a.addr a.items
def Acts (w : World) (A : Option Addr) (acts : List Act) : Prop := acts = [] ∨ ∃ g o, A = some ⟨g, o, none⟩ ∧ g < w.heap.size ∧ ∀ i a, acts[i]? = some a → ActAt w g (o + i * 2) a
theorem ActAt.below {w w' : World} {g o : Nat} {a : Act} (h : ActAt w g o a) (hg : g < w.heap.size) (hb : Below w.heap.size w w') : ActAt w' g o a :=
  ⟨(hb.cell (p := ⟨g, _, none⟩) hg).trans h.kind, (hb.cell (p := ⟨g, _, none⟩) hg).trans h.list, h.its.below hb⟩
/-- Nil at first. -/
theorem rtab_new (w : World) : RTab (w.alloc (.cells #[.slice none 0 0] 48)) w.heap.size (.slice none 0 0) [] := ⟨heap_alloc_new w _, World.ownsRow_nil _ _ _ _⟩
theorem TR.old {B : Nat} {w w' : World} {o : Obj} {t r : Nat} {V : List Value} {v : Value} {L : List (List It)} {l : List It} (h : TR B (w.alloc o) w' t r V v L l) (hB : w.heap.size < B) : Below w.heap.size w w' :=
  ((Below.refl _ _).alloc (Nat.le_refl _) _).trans (h.low.mono (by omega))
/-- The copy that is handed on: a row in a block of its own. -/
theorem own_copy (wr : World) (A : Option Addr) (ys : List It) (n c : Nat) (hn : ys.length = n) (hnb : n ≤ 4096) (hA : ItemsAt wr A ys) :
    ∃ h c1 w', (Builtin.append_ #[35, 35] 35 #[.slice (some ⟨wr.heap.size, 0, none⟩) 0 0, .slice A n c]).run Try.prog (wr.alloc (.cells #[] 32)) = .ok (.slice (some ⟨h, 0, none⟩) n c1) w' ∧ Below wr.heap.size wr w' ∧ wr.heap.size ≤ h ∧ h < w'.heap.size ∧ ItemsAt w' (some ⟨h, 0, none⟩) ys := by
  have hown0 : (wr.alloc (.cells #[] 32)).ownsRow wr.heap.size 32 6 (.slice (some ⟨wr.heap.size, 0, none⟩) 0 0) 0 [] := World.ownsRow_lit wr #[] 0 (Nat.le_refl _) (Nat.zero_le _) rfl
  obtain ⟨o1, w1, hrun, hown1, hgr, hat, _⟩ := append_items wr.heap.size (wr.alloc (.cells #[] 32)) _ 0 n c [] A ys hown0 (hA.below ((Below.refl _ _).alloc (Nat.le_refl _) _)) hn (by simp) (by omega)
  have hb1 : Below wr.heap.size wr w1 := ((Below.refl _ _).alloc (Nat.le_refl _) _).grown hgr (by simp) (fun k e => (hown0.lt k e).1)
  have hown2 : w1.ownsRow wr.heap.size 32 6 o1 n (flat ys) := by simpa using hown1
  rcases hown2.2 with ⟨e, h0⟩ | ⟨g, cap, cur, e, hg, hb, _⟩
  · subst e
    rcases hat with h | h <;> simp [Value.ownBlock] at h
  · subst e
    exact ⟨g, cap, w1, hrun, hb1, hg, (Array.getElem?_eq_some_iff.1 hb).1, items_own hown2⟩
theorem am3 (k : Int) : am k 3 = 0 ∨ am k 3 = 1 ∨ am k 3 = 2 := by
  obtain ⟨h1, h2⟩ := am_range k 3 (by omega)
  omega
theorem cells_zero {w : World} {h : Nat} {ys : List It} (hA : ItemsAt w (some ⟨h, 0, none⟩) ys) : ∀ i x, ys[i]? = some x → CellsAt w h (i * 6) x := by
  intro i x hx
  rcases hA with rfl | ⟨g, o, e, _, hc⟩
  · simp at hx
  · injection e with e
    injection e with e1 e2 _
    subst e1 e2
    have := hc i x hx
    rwa [Nat.zero_add] at this
theorem drop_tr {B : Nat} {w0 W : World} {t r m : Nat} {V : List Value} {v : Value} {L : List (List It)} {l : List It} {S : It → Prop} (h : TR B w0 W t r V v L l) (hs : Same L l S m) (hlen : ∀ xs ∈ L, xs.length ≤ 65536) (s : ByteArray) :
    Calls Try.prog 15 #[.pointer (some ⟨t, 0, none⟩), .string s] W fun e w' => ∃ V', e = .returned (.int .i64 (gone s l)) ∧ TR B w0 w' t r V' v (L.map (·.filter (keeps s))) l := by
  refine (drop_any t V L s W h.ta hlen).mono ?_
  rintro e w' ⟨V', rfl, h1, h2, h3⟩
  exact ⟨V', by rw [gone_same L s hs.fine.len, hs.flat], h.setT h1 h2 h3⟩
theorem rdrop_tr {B : Nat} {w0 W : World} {t r : Nat} {V : List Value} {v : Value} {L : List (List It)} {l : List It} (h : TR B w0 W t r V v L l) (hn : l.length ≤ 65536) (s : ByteArray) :
    Calls Try.prog 19 #[.pointer (some ⟨r, 0, none⟩), .string s] W fun e w' => ∃ v', e = .returned (.int .i64 (gone s l)) ∧ TR B w0 w' t r V v' L (l.filter (keeps s)) := by
  refine (rdrop_any r v l s W h.tb hn).mono ?_
  rintro e w' ⟨v', rfl, h1, h2, h3⟩
  exact ⟨v', rfl, h.setR h1 h2 h3⟩
/-- 'Add' of whatever items to a table of its own: its code is not looked at. -/
def AddedF (B : Nat) (w : World) (f : Nat) (e : Ending) (w' : World) : Prop := ∃ (n : Int) (V' : List Value) (L' : List (List It)), e = .returned (.int .i64 n) ∧ Tab w' f V' L' ∧ Below B w w' ∧ (∀ g, Own f V' g → B ≤ g) ∧ ∀ xs ∈ L', xs.length ≤ 65536
theorem add_f {B : Nat} {w : World} {f h c n m : Nat} {V : List Value} {L : List (List It)} {S : It → Prop} {ys : List It} (ht : Tab w f V L) (hf : Fine L S) (hB : B ≤ w.heap.size) (hown : ∀ g, Own f V g → B ≤ g) (hlen : ∀ xs ∈ L, xs.length ≤ m) (hm : m ≤ 1000) (hn : ys.length = n) (hnb : n ≤ 30)
    (hh : h < B) (hit : ItemsAt w (some ⟨h, 0, none⟩) ys) : Calls Try.prog 7 #[.pointer (some ⟨f, 0, none⟩), .slice (some ⟨h, 0, none⟩) n c] w (AddedF B w f) := by
  subst hn
  by_cases hok : ∀ y ∈ ys, y.ok = true
  · refine (add_any f h c V L ys w (by omega) ht hf.rise (fun j xs hx => by have := hlen xs (List.mem_of_getElem? hx); omega) (by omega) (fun ho => by have := hown h ho; omega) (cells_zero hit) hok).mono ?_
    rintro e w' ⟨rfl, V', h1, h2, h3⟩
    refine ⟨0, V', _, rfl, h1, h2.below hB (fun k hk ho => by have := hown k ho; omega), fun g hg => ?_, fun xs hx => ?_⟩
    · rcases h3 g hg with h4 | h4
      · exact hown g h4
      · omega
    · obtain ⟨j, hj⟩ := List.getElem?_of_mem hx
      have := (addAll_inv ys L m (fun j zs hz => ⟨hf.rise j zs hz, hlen zs (List.mem_of_getElem? hz)⟩) j xs hj).2
      omega
  · refine (add_bad f c _ ys w (by omega) hit hok).mono ?_
    rintro e w' ⟨rfl, hb⟩
    exact ⟨1, V, L, rfl, ht.kept fun g hg => hb.block g (ht.own_lt hg), hb.mono hB, hown, fun xs hx => by have := hlen xs hx; omega⟩
set_option maxHeartbeats 8000000 in
set_option maxRecDepth 100000 in
theorem plays_walk (A : Option Addr) (c : Nat) (acts : List Act) (x : It) (w : World) (hz : Acts w A acts) (hc : acts.length ≤ maxLen) :
    Calls Try.prog 4 #[.slice A acts.length c, x.val] w fun e w' => e = .returned (.bool true) ∧ Below w.heap.size w w' := by
  unfold maxLen at hc
  have HW := fun W => Lib.hid (works_any W)
  obtain ⟨na, hna⟩ : ∃ na, acts.length = na := ⟨_, rfl⟩
  rw [hna] at hc ⊢
  have HNA := Lib.hid hna
  have HZ := Lib.hid hz
  clear hz hna
  go_enter Try.func4, Try.ntmps4
  go_wp2_with fail
  refine Calls.mono (new_any _) ?_
  rintro e w1 ⟨rfl, hw1⟩
  have hx1 : Below (w.heap.size + 1) (w.alloc (.cells x.cells.toArray 32)) w1 := by rw [hw1]; exact (Below.refl _ _).alloc (by simp) _
  have hblk : w1.heap[w.heap.size + 1]? = some (.cells emptyCells 57 (0, 0)) := by
    rw [hw1]
    have := heap_alloc_new (w.alloc (.cells x.cells.toArray 32)) (.cells emptyCells 57)
    rw [World.size_alloc] at this
    exact this
  have hs1 : w1.heap.size = w.heap.size + 2 := by rw [hw1]; simp
  have HT1 := Lib.hid (tab_new hblk)
  have HX1 := Lib.hid hx1
  have HS1 := Lib.hid hs1
  clear hw1 hblk hx1 hs1
  go_wp2_with fail
  refine Calls.mono (HW _).out ?_
  rintro e w2 ⟨rfl, hb2⟩
  have hTR : TR (w.heap.size + 1) (w.alloc (.cells x.cells.toArray 32)) w2 (w.heap.size + 1) w1.heap.size emptyV (.slice none 0 0) emptyL [] := by
    have hb3 : Below w1.heap.size w1 w2 := ((Below.refl _ _).alloc (Nat.le_refl _) _).trans (hb2.mono (by simp))
    refine ⟨HT1.out.kept fun g hg => hb3.block g (HT1.out.own_lt hg), (rtab_new w1).below hb2, ?_, ?_, ?_, HX1.out.trans (hb3.mono (by rw [HS1.out]; omega))⟩
    · intro g h1 h2
      have := own_new h1
      rcases h2 with h2 | h2
      · rw [HS1.out] at h2; omega
      · cases h2
    · intro g h1
      have := own_new h1
      omega
    · intro g h2
      rcases h2 with h2 | h2
      · rw [HS1.out] at h2; omega
      · cases h2
  have HTR := Lib.hid hTR
  have hr0 : w1.heap.size = w.heap.size + 2 := HS1.out
  rw [hr0]
  rw [hr0] at HTR
  clear hTR hb2 HT1 HX1 HS1 HW hr0
  go_wp2_with fail
  go_loopw [7] (fun s wr => ∃ (i : Nat) (V : List Value) (v : Value) (L : List (List It)) (l : List It) (S : It → Prop), s = .int .i64 i ∧ i ≤ na ∧ i ≤ 30 ∧ TR (w.heap.size + 1) (w.alloc (.cells x.cells.toArray 32)) wr (w.heap.size + 1) (w.heap.size + 2) V v L l ∧ Same L l S (30 * i)) (fun s _ => 30 - (intOf s).toNat)
  case atStart => exact ⟨0, emptyV, .slice none 0 0, emptyL, [], fun _ => False, rfl, Nat.zero_le _, Nat.zero_le _, HTR.out, ⟨Fine.empty, by simp [emptyL], Nat.zero_le _⟩⟩
  case round =>
    obtain ⟨i, V, v, L, l, S, rfl, hin, hi30, hTR, hSame⟩ := hrel
    have HTR := Lib.hid hTR
    have HSM := Lib.hid hSame
    clear hTR hSame
    by_cases hgo : i < na ∧ i < 30
    · obtain ⟨hi1, hi2⟩ := hgo
      obtain ⟨a, ha⟩ : ∃ a, acts[i]? = some a := ⟨_, List.getElem?_eq_getElem (by rw [HNA.out]; exact hi1)⟩
      obtain ⟨g, o, rfl, hg, hac⟩ : ∃ g o, A = some ⟨g, o, none⟩ ∧ g < w.heap.size ∧ ∀ i a, acts[i]? = some a → ActAt w g (o + i * 2) a := by
        rcases HZ.out with e | h
        · rw [e] at ha; simp at ha
        · exact h
      have hact := hac i a ha
      have hold := HTR.out.old (by omega)
      obtain ⟨ak, aA, acap, ys⟩ := a
      obtain ⟨a0, a1, _⟩ := hact.below hg hold
      have HITS := Lib.hid hact.its
      obtain ⟨n, hn⟩ : ∃ n, ys.length = n := ⟨_, rfl⟩
      simp only at a0 a1 HITS
      rw [hn] at a1
      have HN := Lib.hid hn
      have HOLD := Lib.hid hold
      clear ha hac hact hn hold
      by_cases hn30 : n ≤ 30
      · obtain ⟨h, c1, w3, hrun, hb3, hh1, hh2, hit3⟩ := own_copy wr aA ys n acap HN.out (by omega) (HITS.out.below HOLD.out)
        have HTR3 := Lib.hid (HTR.out.below hb3)
        have HIT3 := Lib.hid hit3
        have hnot : ¬ Own (w.heap.size + 1) V h := fun hh => by have := HTR.out.ta.own_lt hh; omega
        have hnr : h ≠ w.heap.size + 2 := fun e => by have := HTR.out.tb.lt; omega
        have HNOT := Lib.hid hnot
        have HNR := Lib.hid hnr
        have b0 := (hb3.cell (p := ⟨g, o + i * 2, none⟩) (by have := HTR.out.le; show g < _; omega)).trans a0
        have HAM := fun W => Lib.hid ((among_any ak 3 W (by omega) (by omega)).mono fun e w' h => (⟨h.1, h.2.symm⟩ : e = .returned (.int .i64 (am ak 3)) ∧ W = w'))
        obtain ⟨q, hq⟩ : ∃ q, am ak 3 = q := ⟨_, rfl⟩
        have hq3 := am3 ak
        rw [hq] at HAM hq3
        have HQ := Lib.hid hq3
        clear hb3 hit3 hnot hnr hq hq3
        go_upto_block 2 with (first | (at_builtin; refine Lib.wpList_append_run _ rfl (.tmp 39) (.tmp 40) _ _ rfl _ _ rfl rfl _ _ hrun ?_) | (go_at_call 17; refine Calls.mono (HAM _).out ?_; rintro e w4 ⟨rfl, rfl⟩))
        have hfew := HSM.out.few
        have HLEN : Hid (∀ xs ∈ L, xs.length ≤ 900) := fun xs hx => by have := HSM.out.len xs hx; omega
        have hl900 : l.length ≤ 900 := by omega
        go_cut [78] (fun _ wx => ∃ (V : List Value) (v : Value) (L : List (List It)) (l : List It) (S : It → Prop), TR (w.heap.size + 1) (w.alloc (.cells x.cells.toArray 32)) wx (w.heap.size + 1) (w.heap.size + 2) V v L l ∧ Same L l S (30 * (i + 1)))
        case first =>
          rcases HQ.out with rfl | rfl | rfl
          · skip
            -- SKIP A
            by_cases hok : ∀ y ∈ ys, y.ok = true
            · have HADD := Lib.hid (add_any (w.heap.size + 1) h c1 V L ys w3 (by rw [HN.out]; omega) HTR3.out.ta HSM.out.fine.rise (fun j xs hx => by have := HLEN.out xs (List.mem_of_getElem? hx); rw [HN.out]; omega) hh2 HNOT.out (cells_zero HIT3.out) hok)
              rw [HN.out] at HADD
              have HOK := Lib.hid hok
              clear hok
              go_wp2_with fail
              refine Calls.mono HADD.out ?_
              rintro e w5 ⟨rfl, V5, ht5, hbut5, hown5⟩
              have HTR5 := Lib.hid (HTR3.out.setT ht5 hbut5 hown5)
              have hit5 : ItemsAt w5 (some ⟨h, 0, none⟩) ys := HIT3.out.block hbut5.size fun g' o' e => by cases e; exact hbut5.block h hh2 HNOT.out
              have HIT5 := Lib.hid hit5
              have hh5 : h < w5.heap.size := Nat.lt_of_lt_of_le hh2 hbut5.size
              have hold5 := HTR5.out.old (by omega)
              have HR := Lib.hid (radd_any (w.heap.size + 2) acap v l aA ys w5 HTR5.out.tb (by rw [HN.out]; omega) (HITS.out.below hold5) (fun g' o' e hne => by
                rcases HITS.out with h1 | ⟨g2, o2, h1, h2, _⟩
                · exact absurd h1 hne
                · rw [e] at h1; cases h1; omega) HOK.out)
              rw [HN.out] at HR
              clear ht5 hbut5 hown5 hit5 hold5 HADD
              go_wp2_with fail
              refine Calls.mono HR.out ?_
              rintro e w6 ⟨rfl, v6, ht6, hbut6, hown6⟩
              have HTR6 := Lib.hid (HTR5.out.setR ht6 hbut6 hown6)
              have hit6 : ItemsAt w6 (some ⟨h, 0, none⟩) ys := HIT5.out.block hbut6.size fun g' o' e => by cases e; exact hbut6.block h hh5 HNR.out
              have HSI := Lib.hid (same_items _ _ c1 acap n ys w6 (by omega) HN.out hit6 (HITS.out.below (HTR6.out.old (by omega))))
              clear ht6 hbut6 hown6 hit6 HR
              go_wp2_with fail
              refine Calls.mono HSI.out ?_
              rintro e w7 ⟨rfl, hb7⟩
              have HTR7 := Lib.hid (HTR6.out.below hb7)
              clear hb7 HSI
              go_wp2
              go_meet
              case rel => exact ⟨V5, v6, _, _, _, HTR7.out, by have h1 := HSM.out.add ys; exact ⟨h1.fine, h1.flat, by have := h1.few; rw [HN.out] at this; omega⟩⟩
            · have HADD := Lib.hid (add_bad (w.heap.size + 1) c1 (some ⟨h, 0, none⟩) ys w3 (by rw [HN.out]; omega) HIT3.out hok)
              have HR := fun W hW => Lib.hid (radd_bad (w.heap.size + 2) acap aA ys W (by rw [HN.out]; omega) hW hok)
              rw [HN.out] at HADD HR
              clear hok
              go_wp2_with fail
              refine Calls.mono HADD.out ?_
              rintro e w5 ⟨rfl, hb5⟩
              have HTR5 := Lib.hid (HTR3.out.below hb5)
              have HIT5 := Lib.hid (HIT3.out.below hb5)
              clear hb5 HADD
              go_wp2_with fail
              refine Calls.mono (HR _ (HITS.out.below (HTR5.out.old (by omega)))).out ?_
              rintro e w6 ⟨rfl, hb6⟩
              have HTR6 := Lib.hid (HTR5.out.below hb6)
              have HSI := Lib.hid (same_items _ _ c1 acap n ys w6 (by omega) HN.out (HIT5.out.below hb6) (HITS.out.below (HTR6.out.old (by omega))))
              clear hb6 HR
              go_wp2_with fail
              refine Calls.mono HSI.out ?_
              rintro e w7 ⟨rfl, hb7⟩
              have HTR7 := Lib.hid (HTR6.out.below hb7)
              clear hb7 HSI
              go_wp2
              go_meet
              case rel => exact ⟨V, v, L, l, S, HTR7.out, HSM.out.fine, HSM.out.flat, by omega⟩
            -- END A
          · skip
            -- SKIP B
            have HD := fun s => Lib.hid (drop_tr HTR3.out HSM.out (fun xs hx => by have := HLEN.out xs hx; omega) s)
            by_cases hn0 : 0 < n
            · obtain ⟨y, hy⟩ : ∃ y, ys[0]? = some y := ⟨_, List.getElem?_eq_getElem (by rw [HN.out]; exact hn0)⟩
              obtain ⟨g2, o2, rfl, hg2, hc2⟩ : ∃ g o, aA = some ⟨g, o, none⟩ ∧ g < w3.heap.size ∧ ∀ i x, ys[i]? = some x → CellsAt w3 g (o + i * 6) x := by
                rcases (HITS.out.below (HTR3.out.old (by omega))) with e | h
                · rw [e] at hy; simp at hy
                · exact h
              have d1 := (hc2 0 y hy).c1
              simp only [Nat.zero_mul, Nat.add_zero] at d1
              have HDY := HD y.pack
              clear hy hc2 HD
              go_wp2_with fail
              refine Calls.mono HDY.out ?_
              rintro e w5 ⟨V5, rfl, hTR5⟩
              have HR := Lib.hid (rdrop_tr hTR5 (by omega) y.pack)
              clear hTR5 HDY
              go_wp2_with fail
              refine Calls.mono HR.out ?_
              rintro e w6 ⟨v6, rfl, hTR6⟩
              have HTR6 := Lib.hid hTR6
              clear hTR6 HR
              go_wp2
              go_meet
              case rel => exact ⟨V5, v6, _, _, _, HTR6.out, by have h1 := HSM.out.drop y.pack; exact ⟨h1.fine, h1.flat, by have := h1.few; omega⟩⟩
            · have hn1 : n = 0 := by omega
              subst hn1
              have HDY := HD { data := #[] }
              clear HD
              go_wp2_with fail
              refine Calls.mono HDY.out ?_
              rintro e w5 ⟨V5, rfl, hTR5⟩
              have HR := Lib.hid (rdrop_tr hTR5 (by omega) { data := #[] })
              clear hTR5 HDY
              go_wp2_with fail
              refine Calls.mono HR.out ?_
              rintro e w6 ⟨v6, rfl, hTR6⟩
              have HTR6 := Lib.hid hTR6
              clear hTR6 HR
              go_wp2
              go_meet
              case rel => exact ⟨V5, v6, _, _, _, HTR6.out, by have h1 := HSM.out.drop { data := #[] }; exact ⟨h1.fine, h1.flat, by have := h1.few; omega⟩⟩
            -- END B
          · skip
            -- SKIP C
            have HFK := Lib.hid (fork_any (w.heap.size + 1) V L w3 HTR3.out.ta (fun xs hx => by have := HLEN.out xs hx; omega))
            go_wp2_with fail
            refine Calls.mono HFK.out ?_
            rintro e w5 ⟨V5, rfl, ht5, hb5, hown5⟩
            have HTR5 := Lib.hid (HTR3.out.below hb5)
            have HT5 := Lib.hid ht5
            have HB5 := Lib.hid hb5
            have HOW5 := Lib.hid hown5
            obtain ⟨x0, x1, x2, x3, x4, x5⟩ := (CellsAt.new w x).below HTR5.out.low (by omega)
            have HSA := Lib.hid (same_any w3.heap.size (w.heap.size + 2) V5 v L S l x w5 ht5 HTR5.out.tb HSM.out.fine HSM.out.flat (fun xs hx => by have := HLEN.out xs hx; omega) (by omega))
            clear ht5 hb5 hown5 HFK
            go_wp2_with fail
            refine Calls.mono HSA.out ?_
            rintro e w6 ⟨rfl, hb6⟩
            have HT6 := Lib.hid (HT5.out.but (S := fun _ => False) (But.of_below hb6) (fun _ _ h => h))
            have HB6 := Lib.hid (HB5.out.trans (hb6.mono HB5.out.size))
            have HAF := Lib.hid (add_f (c := c1) HT6.out HSM.out.fine HB6.out.size HOW5.out HLEN.out (by omega) HN.out hn30 hh2 (HIT3.out.below HB6.out))
            clear hb6 HSA x0 x1 x2 x3 x4 x5 HT5 HB5 HTR5
            go_wp2_with fail
            refine Calls.mono HAF.out ?_
            rintro e w7 ⟨nn, V7, L7, rfl, ht7, hb7, hown7, hlen7⟩
            have HB7 := Lib.hid (HB6.out.trans hb7)
            have HT7 := Lib.hid ht7
            have HOW7 := Lib.hid hown7
            have HL7 := Lib.hid hlen7
            have HTR7 := Lib.hid (HTR3.out.below HB7.out)
            obtain ⟨RA, rc, hv⟩ := HTR7.out.tb.row.lenV
            obtain ⟨nl, hnl⟩ : ∃ nl, l.length = nl := ⟨_, rfl⟩
            rw [hnl] at hv
            have hcr := HTR7.out.tb.cell
            rw [hv] at hcr
            have HV := Lib.hid hv
            have HNL := Lib.hid hnl
            have hnlb : nl ≤ 900 := by omega
            clear ht7 hb7 hown7 hlen7 HAF hv hnl
            by_cases hl0 : 0 < nl
            · obtain ⟨y, hy⟩ : ∃ y, l[0]? = some y := ⟨_, List.getElem?_eq_getElem (by rw [HNL.out]; exact hl0)⟩
              have hrow := HTR7.out.tb.row
              rw [HV.out] at hrow
              obtain ⟨g2, rfl, _, t0, t1, t2, t3, t4, t5⟩ := row_items_at hrow (Below.refl _ _) hy rfl
              simp only [Nat.zero_mul, Nat.zero_add] at t0 t1 t2 t3 t4 t5
              have HDF := Lib.hid (drop_any w3.heap.size V7 L7 y.pack w7 HT7.out HL7.out)
              clear hy hrow
              go_wp2_with fail
              refine Calls.mono HDF.out ?_
              rintro e w8 ⟨V8, rfl, ht8, hbut8, _⟩
              have HTR8 := Lib.hid (HTR3.out.below (HB7.out.trans (hbut8.below HB7.out.size fun k hk ho => by have := HOW7.out k ho; omega)))
              clear ht8 hbut8 HDF
              go_wp2
              go_meet
              case rel => exact ⟨V, v, L, l, S, HTR8.out, HSM.out.fine, HSM.out.flat, by omega⟩
            · go_wp2
              go_meet
              case rel => exact ⟨V, v, L, l, S, HTR7.out, HSM.out.fine, HSM.out.flat, by omega⟩
            -- END C
        case rest =>
          obtain ⟨V2, v2, L2, l2, S2, hTR4, hSM4⟩ := hcut
          have HTR4 := Lib.hid hTR4
          have HSM4 := Lib.hid hSM4
          have hl2 : l2.length ≤ 900 := by have := hSM4.few; omega
          have HL2 : Hid (∀ xs ∈ L2, xs.length ≤ 65536) := fun xs hx => by have := hSM4.len xs hx; omega
          clear hTR4 hSM4 HTR HTR3 HIT3 HNOT HLEN HSM hfew hl900 hrun b0
          have HSX := fun W (hW : TR (w.heap.size + 1) (w.alloc (.cells x.cells.toArray 32)) W (w.heap.size + 1) (w.heap.size + 2) V2 v2 L2 l2) => Lib.hid (same_any _ _ V2 v2 L2 S2 l2 x W hW.ta hW.tb HSM4.out.fine HSM4.out.flat HL2.out (by omega))
          obtain ⟨x0, x1, x2, x3, x4, x5⟩ := (CellsAt.new w x).below HTR4.out.low (by omega)
          by_cases hn0 : 0 < n
          · obtain ⟨y, hy⟩ : ∃ y, ys[0]? = some y := ⟨_, List.getElem?_eq_getElem (by rw [HN.out]; exact hn0)⟩
            obtain ⟨g2, o2, rfl, hg2, hc2⟩ : ∃ g o, aA = some ⟨g, o, none⟩ ∧ g < wc.heap.size ∧ ∀ i x, ys[i]? = some x → CellsAt wc g (o + i * 6) x := by
              rcases (HITS.out.below (HTR4.out.old (by omega))) with e | h
              · rw [e] at hy; simp at hy
              · exact h
            obtain ⟨d0, d1, d2, d3, d4, d5⟩ := hc2 0 y hy
            simp only [Nat.zero_mul, Nat.add_zero] at d0 d1 d2 d3 d4 d5
            have HSY := Lib.hid (same_any _ _ V2 v2 L2 S2 l2 y wc HTR4.out.ta HTR4.out.tb HSM4.out.fine HSM4.out.flat HL2.out (by omega))
            clear hy hc2
            go_wp2_with fail
            refine Calls.mono HSY.out ?_
            rintro e w5 ⟨rfl, hb5⟩
            have HTR5 := Lib.hid (HTR4.out.below hb5)
            obtain ⟨x0, x1, x2, x3, x4, x5⟩ := (CellsAt.new w x).below HTR5.out.low (by omega)
            clear hb5 HSY
            go_wp2_with fail
            refine Calls.mono (HSX _ HTR5.out).out ?_
            rintro e w6 ⟨rfl, hb6⟩
            have HTR6 := Lib.hid (HTR5.out.below hb6)
            clear hb6 HSX
            go_wp2
            go_roundw
            case rel => exact ⟨i + 1, V2, v2, L2, l2, S2, by go_num, by omega, by omega, HTR6.out, HSM4.out⟩
            case measure => simp [intOf]; omega
          · have hn1 : n = 0 := by omega
            subst hn1
            go_wp2_with fail
            refine Calls.mono (HSX _ HTR4.out).out ?_
            rintro e w6 ⟨rfl, hb6⟩
            have HTR6 := Lib.hid (HTR4.out.below hb6)
            clear hb6 HSX
            go_wp2
            go_roundw
            case rel => exact ⟨i + 1, V2, v2, L2, l2, S2, by go_num, by omega, by omega, HTR6.out, HSM4.out⟩
            case measure => simp [intOf]; omega
      · have HFE : Hid (Same L l S (30 * (i + 1))) := ⟨HSM.out.fine, HSM.out.flat, by have := HSM.out.few; omega⟩
        go_wp2
        go_roundw
        case rel => exact ⟨i + 1, V, v, L, l, S, by go_num, by omega, by omega, HTR.out, HFE.out⟩
        case measure => simp [intOf]; omega
    · have hor : i < na ∧ i = 30 ∨ i = na := by omega
      have HOL := Lib.hid (HTR.out.old (by omega))
      rcases hor with ⟨h1, h2⟩ | h2
      · subst h2
        clear hgo
        go_wp2
        go_ret
        exact ⟨rfl, HOL.out⟩
      · subst h2
        clear hgo
        go_wp2
        go_ret
        exact ⟨rfl, HOL.out⟩
end Go.Proofs.Ytgigihlmpdpggaa
