import Derived.Test.YtgigihlmpdpggaaQc
namespace Go.Proofs.Ytgigihlmpdpggaa
open Go.RowKit
theorem cells_keepO {W : World} {g o : Nat} {x : It} (h : CellsAt W g o x) (hg : g < W.heap.size) : ∀ W', Below W.heap.size W W' →
    (W'.cell? ⟨g, o, none⟩ = some (.string x.id) ∧ W'.cell? ⟨g, o + 1, none⟩ = some (.string x.pack) ∧ W'.cell? ⟨g, o + 2, none⟩ = some (.int .i64 x.kind) ∧ W'.cell? ⟨g, o + 3, none⟩ = some (.int .i64 x.off) ∧ W'.cell? ⟨g, o + 4, none⟩ = some (.int .i64 x.long) ∧ W'.cell? ⟨g, o + 5, none⟩ = some (.int .i64 x.size)) := fun W' hb => by
  obtain ⟨a0, a1, a2, a3, a4, a5⟩ := h.below hb hg
  exact ⟨a0, a1, a2, a3, a4, a5⟩
/-- Two items, and a cell, that stay. -/
theorem thirteen {W : World} {p g o q : Nat} {v : Value} {x y : It} (hp : W.cell? ⟨p, 0, none⟩ = some v) (hpl : p < W.heap.size) (hx : CellsAt W g o x) (hg : g < W.heap.size) (hy : CellsAt W q 0 y) (hq : q < W.heap.size) : ∀ W', Below W.heap.size W W' →
    (W'.cell? ⟨p, 0, none⟩ = some v ∧ W'.cell? ⟨g, o, none⟩ = some (.string x.id) ∧ W'.cell? ⟨g, o + 1, none⟩ = some (.string x.pack) ∧ W'.cell? ⟨g, o + 2, none⟩ = some (.int .i64 x.kind) ∧ W'.cell? ⟨g, o + 3, none⟩ = some (.int .i64 x.off) ∧ W'.cell? ⟨g, o + 4, none⟩ = some (.int .i64 x.long) ∧ W'.cell? ⟨g, o + 5, none⟩ = some (.int .i64 x.size) ∧
     W'.cell? ⟨q, 0, none⟩ = some (.string y.id) ∧ W'.cell? ⟨q, 1, none⟩ = some (.string y.pack) ∧ W'.cell? ⟨q, 2, none⟩ = some (.int .i64 y.kind) ∧ W'.cell? ⟨q, 3, none⟩ = some (.int .i64 y.off) ∧ W'.cell? ⟨q, 4, none⟩ = some (.int .i64 y.long) ∧ W'.cell? ⟨q, 5, none⟩ = some (.int .i64 y.size)) := fun W' hb => by
  obtain ⟨a0, a1, a2, a3, a4, a5⟩ := hx.below hb hg
  obtain ⟨b0, b1, b2, b3, b4, b5⟩ := hy.below hb hq
  simp only [Nat.zero_add] at b1 b2 b3 b4 b5
  exact ⟨(hb.cell (p := ⟨p, 0, none⟩) hpl).trans hp, a0, a1, a2, a3, a4, a5, b0, b1, b2, b3, b4, b5⟩
theorem one_item (w1 : World) (y : It) : ItemsAt (w1.alloc (.cells #[.string y.id, .string y.pack, .int .i64 y.kind, .int .i64 y.off, .int .i64 y.long, .int .i64 y.size] 32)) (some ⟨w1.heap.size, 0, none⟩) [y] := by
  refine .inr ⟨_, 0, rfl, by simp, fun i x hx => ?_⟩
  have hi : i = 0 := by have := (List.getElem?_eq_some_iff.1 hx).1; simp at this; omega
  subst hi
  cases hx
  exact CellsAt.new w1 y
theorem drop_items {w : World} {A : Option Addr} {n c : Nat} {l : List It} (h : Row w (.slice A n c) l) (r : Nat) (hr : r < c) : ∃ g o, A = some ⟨g, o, none⟩ ∧ ItemsAt w (some ⟨g, o + r * 6, none⟩) (l.drop r) := by
  obtain ⟨cap, ⟨e, rfl⟩ | ⟨g, e, ho, hg, _⟩⟩ := h.form'
  · injection e with _ _ e3; omega
  · injection e with e1 _ _
    subst e1
    refine ⟨g, 0, rfl, .inr ⟨g, _, rfl, hg, fun i x hx => ?_⟩⟩
    rw [List.getElem?_drop] at hx
    have := h.at_ ho hx
    rw [show 0 + r * 6 + i * 6 = (r + i) * 6 by omega]
    exact this
theorem own_form {w : World} {B n s : Nat} {t : TypeId} {v : Value} {xs : List Value} (h : w.ownsRow B t s v n xs) : ∃ A m c, v = .slice A m c := by
  rcases h.2 with ⟨rfl, _⟩ | ⟨_, _, _, rfl, _⟩ <;> exact ⟨_, _, _, rfl⟩
theorem put_cell {wz w2 w3 : World} {p n : Nat} {v o2 : Value} {l : List It} {xs : List Value} (ht : RTab wz p v l) (hb : Below wz.heap.size wz w2) (ho : w2.ownsRow wz.heap.size 32 6 o2 n xs) (hg : w2.grownBy w3 o2.ownBlock) : w3.cell? ⟨p, 0, none⟩ = some v :=
  (ht.below (hb.grown hg hb.size fun k e => (ho.lt k e).1)).cell
theorem put_frozen {wz w2 w3 : World} {p n : Nat} {v o2 : Value} {l : List It} {xs : List Value} (ht : RTab wz p v l) (hb : Below wz.heap.size wz w2) (ho : w2.ownsRow wz.heap.size 32 6 o2 n xs) (hg : w2.grownBy w3 o2.ownBlock) : w3.frozen? ⟨p, 0, none⟩ = false :=
  (ht.below (hb.grown hg hb.size fun k e => (ho.lt k e).1)).frozen
theorem put_done {w wz w2 w3 : World} {p r n m : Nat} {v o2 o3 : Value} {l : List It} {y : It} {ks : List Value} (ht : RTab wz p v l) (hbc : Below w.heap.size w wz) (hb : Below wz.heap.size wz w2) (ho2 : w2.ownsRow wz.heap.size 32 6 o2 n ks)
    (ho : w3.ownsRow wz.heap.size 32 6 o3 m ([] ++ flat (l.take r) ++ flat [y] ++ flat (l.drop r))) (hg : w2.grownBy w3 o2.ownBlock) (hm : m = l.length + 1) (hi : ins y l = l.take r ++ y :: l.drop r) :
    Putted w p v (ins y l) (.returned (.tuple #[])) (w3.setCell ⟨p, 0, none⟩ o3) := by
  have hb3 : Below wz.heap.size wz w3 := hb.grown hg hb.size fun k e => (ho2.lt k e).1
  have hrow : Row w3 o3 (ins y l) := by
    have hl : (ins y l).length = m := by rw [hi, hm]; simp; omega
    have hf : flat (ins y l) = [] ++ flat (l.take r) ++ flat [y] ++ flat (l.drop r) := by
      rw [hi, flat_append, show y :: l.drop r = [y] ++ l.drop r from rfl, flat_append]; simp
    have h2 := ho.2
    rw [← hf, ← hl] at ho
    obtain ⟨h1, h2⟩ := ho
    refine ⟨h1, h2.imp id ?_⟩
    rintro ⟨g, cap, cur, h3, h4, h5⟩
    exact ⟨g, cap, cur, h3, Nat.zero_le _, h5⟩
  obtain ⟨h1, h2⟩ := ht.set_ hb3 hrow
  refine ⟨rfl, o3, h1, (But.of_below hbc).trans h2, fun g hg => ?_⟩
  rcases hg with rfl | hg
  · exact .inl (.inl rfl)
  · have := (ho.lt g hg).1
    have := hbc.size
    exact .inr (by omega)
theorem ne_ways {x y : It} (h : ¬ x = y) : (!x.id.toList == y.id.toList) = true ∧ (x.id.toList == y.id.toList) = false ∨ x.id = y.id ∧ (!x.pack.toList == y.pack.toList) = true ∧ (x.pack.toList == y.pack.toList) = false ∨ x.id = y.id ∧ x.pack = y.pack ∧ (x.kind == y.kind) = false ∨ x.id = y.id ∧ x.pack = y.pack ∧ x.kind = y.kind ∧ (x.off == y.off) = false ∨
    x.id = y.id ∧ x.pack = y.pack ∧ x.kind = y.kind ∧ x.off = y.off ∧ (x.long == y.long) = false ∨ x.id = y.id ∧ x.pack = y.pack ∧ x.kind = y.kind ∧ x.off = y.off ∧ x.long = y.long ∧ (x.size == y.size) = false := by
  by_cases h1 : x.id.toList = y.id.toList
  · have e1 := toList_inj h1
    by_cases h2 : x.pack.toList = y.pack.toList
    · have e2 := toList_inj h2
      by_cases h3 : x.kind = y.kind
      · by_cases h4 : x.off = y.off
        · by_cases h5 : x.long = y.long
          · by_cases h6 : x.size = y.size
            · exfalso
              obtain ⟨i, p, k, o, l, s⟩ := x
              obtain ⟨i', p', k', o', l', s'⟩ := y
              simp only at e1 e2 h3 h4 h5 h6
              subst e1 e2 h3 h4 h5 h6
              exact h rfl
            · exact .inr (.inr (.inr (.inr (.inr ⟨e1, e2, h3, h4, h5, by simpa using h6⟩))))
          · exact .inr (.inr (.inr (.inr (.inl ⟨e1, e2, h3, h4, by simpa using h5⟩))))
        · exact .inr (.inr (.inr (.inl ⟨e1, e2, h3, by simpa using h4⟩)))
      · exact .inr (.inr (.inl ⟨e1, e2, by simpa using h3⟩))
    · exact .inr (.inl ⟨e1, by simpa using h2, by simpa using h2⟩)
  · exact .inl ⟨by simpa using h1, by simpa using h1⟩
set_option maxHeartbeats 4000000 in
set_option maxRecDepth 100000 in
theorem put_any (p : Nat) (v : Value) (l : List It) (y : It) (w : World) (ht : RTab w p v l) (hn : l.length ≤ 65536) :
    Calls Try.prog 35 #[.pointer (some ⟨p, 0, none⟩), y.val] w (Putted w p v (ins y l)) := by
  obtain ⟨A, c, hv⟩ := ht.row.lenV
  have hlo := pos_lo y l
  have hst := pos_stop y l
  have hle := pos_le y l
  obtain ⟨r, hr⟩ : ∃ r, pos y l = r := ⟨_, rfl⟩
  have HIN : Hid (ins y l = if (l[r]?).any fun x => x.ord y == 0 then l else l.take r ++ y :: l.drop r) := by rw [← hr]; rfl
  rw [hr] at hlo hst hle
  obtain ⟨n, hnl⟩ : ∃ n, l.length = n := ⟨_, rfl⟩
  rw [hnl] at hv hn hle
  have HR := fun x W => Lib.hid (rless_any x y W)
  have HLO := Lib.hid hlo
  have HST := Lib.hid hst
  have HNL := Lib.hid hnl
  subst hv
  have HT := Lib.hid ht
  clear ht hlo hst hr hnl
  go_enter Try.func35, Try.ntmps35
  go_wp2
  go_loopw [4] (fun s wr => ∃ k : Nat, s = .int .i64 k ∧ k ≤ r ∧ Below (w.heap.size + 1) (w.alloc (.cells y.cells.toArray 32)) wr) (fun s _ => r - (intOf s).toNat)
  case atStart => exact ⟨0, rfl, Nat.zero_le _, Below.refl _ _⟩
  case round =>
    obtain ⟨k, rfl, hk, hb⟩ := hrel
    have hszr := hb.size
    simp only [World.size_alloc] at hszr
    have hbb : Below w.heap.size w wr := ((Below.refl _ _).alloc (Nat.le_refl _) _).trans (hb.mono (by omega))
    have HT2 := Lib.hid (HT.out.below hbb)
    have hp := HT2.out.cell
    have hpl := HT2.out.lt
    have hY : CellsAt wr w.heap.size 0 y := (CellsAt.new w y).below hb (by omega)
    have HB := Lib.hid hb
    have HBB := Lib.hid hbb
    have HY := Lib.hid hY
    clear hb hbb hY
    by_cases hkn : k < n
    · obtain ⟨x, hx⟩ : ∃ x, l[k]? = some x := ⟨_, List.getElem?_eq_getElem (by rw [HNL.out]; exact hkn)⟩
      obtain ⟨g, o, rfl, hg, hcx⟩ : ∃ g o, A = some ⟨g, o, none⟩ ∧ g < wr.heap.size ∧ ∀ i x, l[i]? = some x → CellsAt wr g (o + i * 6) x := by
        rcases HT2.out.row.items with e | h
        · rw [e] at hx; simp at hx
        · exact h
      have HS := Lib.hid (thirteen hp hpl (hcx k x hx) hg HY.out (by omega))
      obtain ⟨t0, t1, t2, t3, t4, t5, t6, t7, t8, t9, t10, t11, t12⟩ := HS.out _ (Below.refl _ _)
      have e1 : (0 : Int) ≤ (k : Int) := by omega
      have e2 : (k : Int) < (n : Int) := by omega
      have e3 : decide ((k : Int) < (n : Int)) = true := decide_eq_true e2
      obtain ⟨lb, hlb⟩ : ∃ lb, lessB x y = lb := ⟨_, rfl⟩
      have HRX := HR x
      rw [hlb] at HRX
      have HLB : Hid ((lb = true → k < r) ∧ (lb = false → k = r)) := by
        refine ⟨fun e => ?_, fun e => ?_⟩
        · rcases Nat.lt_or_ge k r with h | h
          · exact h
          · have : k = r := by omega
            subst this
            have := HST.out x hx
            rw [hlb, e] at this
            cases this
        · rcases Nat.lt_or_ge k r with h | h
          · have := HLO.out k x h hx
            have h2 : lessB x y = true := decide_eq_true this
            rw [hlb, e] at h2
            cases h2
          · omega
      have HX := Lib.hid hx
      have HCX := Lib.hid hcx
      clear hx hcx hlb
      go_upto_region 2 with fail
      go_cut [23] (fun s wx => s = .bool lb ∧ Below wr.heap.size wr wx)
      case first =>
        go_region_held3 (fun W => W.cell? ⟨p, 0, none⟩ = some (.slice (some ⟨g, o, none⟩) n c) ∧ W.cell? ⟨g, o + k * 6, none⟩ = some (.string x.id) ∧ W.cell? ⟨g, o + k * 6 + 1, none⟩ = some (.string x.pack) ∧ W.cell? ⟨g, o + k * 6 + 2, none⟩ = some (.int .i64 x.kind) ∧ W.cell? ⟨g, o + k * 6 + 3, none⟩ = some (.int .i64 x.off) ∧ W.cell? ⟨g, o + k * 6 + 4, none⟩ = some (.int .i64 x.long) ∧ W.cell? ⟨g, o + k * 6 + 5, none⟩ = some (.int .i64 x.size) ∧
            W.cell? ⟨w.heap.size, 0, none⟩ = some (.string y.id) ∧ W.cell? ⟨w.heap.size, 1, none⟩ = some (.string y.pack) ∧ W.cell? ⟨w.heap.size, 2, none⟩ = some (.int .i64 y.kind) ∧ W.cell? ⟨w.heap.size, 3, none⟩ = some (.int .i64 y.off) ∧ W.cell? ⟨w.heap.size, 4, none⟩ = some (.int .i64 y.long) ∧ W.cell? ⟨w.heap.size, 5, none⟩ = some (.int .i64 y.size))
          (first | exact HS.out _ (Below.refl _ _).drew | exact HS.out _ ((Below.refl _ _).drew.trans hb2))
          (first | (go_at_call 64; refine Calls.mono (HRX _).out ?_; rintro e w2 ⟨rfl, hb2⟩))
        all_goals go_wp2
        all_goals go_meet
        all_goals (case rel => exact ⟨rfl, (Below.refl _ _).drew.trans (by assumption)⟩)
      case rest =>
        obtain ⟨rfl, hbx⟩ := hcut
        have hwc : Below w.heap.size w wc := HBB.out.trans (hbx.mono HBB.out.size)
        cases lb
        · have hkr : k = r := HLB.out.2 rfl
          subst hkr
          have hwz : w.heap.size < wc.heap.size := Nat.lt_of_lt_of_le (by omega) hbx.size
          have HTc := Lib.hid (HT.out.below hwc)
          have HYc := Lib.hid (HY.out.below hbx (by omega))
          obtain ⟨t0, t1, t2, t3, t4, t5, t6, t7, t8, t9, t10, t11, t12⟩ := HS.out _ hbx
          have HBc := Lib.hid hwc
          clear hbx hwc HS HRX
          have hnc : n ≤ c := by
            obtain ⟨cap, ⟨e, _⟩ | ⟨g', e, _, _, h1, _⟩⟩ := HTc.out.row.form'
            · injection e with _ e2 _; omega
            · injection e with _ e2 e3; omega
          go_upto_region 4 with fail
          by_cases hxy : x = y
          · subst hxy
            have HIE : Hid (ins x l = l) := by refine Lib.hid ?_; rw [HIN.out, HX.out]; simp [ord_self]
            clear HLO HST HLB
            go_quiet (fail)
            go_wp2
            go_end0
            refine ⟨rfl, _, ?_, But.of_below (below_drewN HBc.out _), fun g hg => .inl hg⟩
            rw [HIE.out]
            exact HTc.out.below (below_drewN (Below.refl _ _) _)
          · have HNI : Hid (ins y l = l.take k ++ y :: l.drop k) := by
              have : ¬ x.ord y = 0 := fun e => hxy (ord_zero e)
              refine Lib.hid ?_
              rw [HIN.out, HX.out]; simp [this]
            have HNE := Lib.hid (ne_ways hxy)
            clear hxy HLO HST HLB
            obtain ⟨wo, rfl⟩ : ∃ wo : World, wo = wc := ⟨_, rfl⟩
            go_cut [43] (fun s wx => s = .bool false ∧ Below wo.heap.size wo wx)
            case first =>
              obtain ⟨i0, p0, k0, o0, l0, s0⟩ := x
              obtain ⟨i1, p1, k1, o1, l1, s1⟩ := y
              simp only at t1 t2 t3 t4 t5 t6 t7 t8 t9 t10 t11 t12
              have HNE2 := Lib.hid HNE.out
              simp only at HNE2
              clear HNE
              rcases HNE2.out with ⟨n1, n2⟩ | ⟨rfl, n1, n2⟩ | ⟨rfl, rfl, n1⟩ | ⟨rfl, rfl, rfl, n1⟩ | ⟨rfl, rfl, rfl, rfl, n1⟩ | ⟨rfl, rfl, rfl, rfl, rfl, n1⟩
              all_goals go_quiet (fail)
              all_goals go_wp2
              all_goals go_meet
              all_goals (case rel => exact ⟨rfl, below_drewN (Below.refl _ _) _⟩)
            case rest =>
              obtain ⟨rfl, hbz⟩ := hcut
              have hwy : w.heap.size < wc.heap.size := Nat.lt_of_lt_of_le hwz hbz.size
              have HTz := Lib.hid (HTc.out.below hbz)
              have HYz := Lib.hid (HYc.out.below hbz hwz)
              have HBz := Lib.hid (HBc.out.trans (hbz.mono HBc.out.size))
              clear HTc HYc HBc hbz hwz t0 t1 t2 t3 t4 t5 t6 t7 t8 t9 t10 t11 t12
              have hpz := HTz.out.cell
              -- SKIP T
              obtain ⟨o1, w1, hrun1, hown1, hgr1, _, _⟩ := append_items wc.heap.size wc (.slice none 0 0) 0 k c [] (some ⟨g, o, none⟩) (l.take k) (World.ownsRow_nil _ _ _ _) (HTz.out.row.items.take k) (by rw [List.length_take, HNL.out]; omega) (Nat.le_refl _) (by omega)
              have hb1 : Below wc.heap.size wc w1 := (Below.refl _ _).grown hgr1 (Nat.le_refl _) (fun k e => by cases e)
              obtain ⟨y0, y1, y2, y3, y4, y5⟩ := HYz.out.below hb1 hwy
              simp only [Nat.zero_add] at y1 y2 y3 y4 y5
              have hA2 : ItemsAt (w1.alloc (.cells #[.string y.id, .string y.pack, .int .i64 y.kind, .int .i64 y.off, .int .i64 y.long, .int .i64 y.size] 32)) (some ⟨w1.heap.size, 0, none⟩) [y] := one_item w1 y
              obtain ⟨o2, w2, hrun2, hown2, hgr2, _, _⟩ := append_items wc.heap.size _ o1 (0 + k) 1 1 _ _ [y] (hown1.alloc _) hA2 rfl (by have := hb1.size; simp; omega) (by omega)
              have hb2 : Below wc.heap.size wc w2 := (hb1.alloc hb1.size _).grown hgr2 (by have := hb1.size; simp; omega) (fun k e => (hown1.lt k e).1)
              have hp2 := (HTz.out.below hb2).cell
              have HB2 := Lib.hid hb2
              have HRUN2 := Lib.hid hrun2
              have HO2 := Lib.hid hown2
              clear hown1 hgr1 hb1 hA2 hown2 hgr2 hb2 hrun2
              go_upto_region 7 with (at_builtin; refine Lib.wpList_append_run _ rfl (.tmp 44) (.tmp 50) _ _ rfl _ _ rfl rfl _ _ hrun1 ?_)
              have hrun2 := HRUN2.out
              clear hrun1 HRUN2
              go_upto_region 8 with (at_builtin; refine Lib.wpList_append_run _ rfl (.tmp 52) (.tmp 54) _ _ rfl _ _ rfl rfl _ _ hrun2 ?_)
              clear hrun2 y0 y1 y2 y3 y4 y5
              rcases Nat.lt_or_ge k c with hrc | hrc
              · obtain ⟨g, o, hgo, hdr⟩ := drop_items HTz.out.row k hrc
                cases hgo
                have hne : ¬ c = k := by omega
                obtain ⟨o3, w3, hrun3, hown3, hgr3, _, _⟩ := append_items wc.heap.size w2 o2 (0 + k + 1) (n - k) (c - k) _ (some ⟨g, o + k * 6, none⟩) (l.drop k) HO2.out (hdr.below HB2.out) (by rw [List.length_drop, HNL.out]) HB2.out.size (by omega)
                have HF := Lib.hid (put_done HTz.out HBz.out HB2.out HO2.out hown3 hgr3 (by rw [HNL.out]; omega) HNI.out)
                have hc3 := put_cell HTz.out HB2.out HO2.out hgr3
                have hf3 := put_frozen HTz.out HB2.out HO2.out hgr3
                obtain ⟨A3, n3, c3, rfl⟩ := own_form hown3
                clear hown3 hgr3 hdr
                go_wp2_with (at_builtin; refine Lib.wpList_append_run _ rfl (.tmp 57) (.tmp 63) _ _ rfl _ _ rfl rfl _ _ hrun3 ?_)
                go_end0
                exact HF.out
              · omega
              -- END T
        · have hkr : k < r := HLB.out.1 rfl
          have hbz : Below (w.heap.size + 1) (w.alloc (.cells y.cells.toArray 32)) wc := HB.out.trans (hbx.mono (by omega))
          have HBZ := Lib.hid hbz
          clear hbx hwc HS HRX hbz
          go_wp2
          go_roundw
          case rel => exact ⟨k + 1, by go_num, by omega, HBZ.out⟩
          case measure => simp [intOf]; omega
    · have hkr : k = r := by omega
      have hge : n ≤ k := by omega
      subst hkr
      have HNI : Hid (ins y l = l.take k ++ y :: l.drop k) := by
        rw [HIN.out, List.getElem?_eq_none (by rw [HNL.out]; omega)]; rfl
      have hnc : n ≤ c := by
        obtain ⟨cap, ⟨e, _⟩ | ⟨g', e, _, _, h1, _⟩⟩ := HT2.out.row.form'
        · injection e with _ e2 _; omega
        · injection e with _ e2 e3; omega
      have hkn2 : decide (k < n) = false := decide_eq_false (by omega)
      have hwr : w.heap.size < wr.heap.size := by omega
      go_wp2
      go_quiet (fail)
      go_upto_region 4 with fail
      go_cut [43] (fun s wx => s = .bool false ∧ Below wr.heap.size wr wx)
      case first =>
        go_quiet (fail)
        go_wp2
        go_meet
        case rel => exact ⟨rfl, below_drewN (below_drewN (Below.refl _ _) _) _⟩
      case rest =>
        obtain ⟨rfl, hbz⟩ := hcut
        have hwy : w.heap.size < wc.heap.size := Nat.lt_of_lt_of_le hwr hbz.size
        have HTz := Lib.hid (HT2.out.below hbz)
        have HYz := Lib.hid (HY.out.below hbz hwr)
        have HBz := Lib.hid (HBB.out.trans (hbz.mono HBB.out.size))
        clear hbz hwr hp
        have hpz := HTz.out.cell
        -- SKIP U
        obtain ⟨o1, w1, hrun1, hown1, hgr1, _, _⟩ := append_items wc.heap.size wc (.slice none 0 0) 0 k c [] A (l.take k) (World.ownsRow_nil _ _ _ _) (HTz.out.row.items.take k) (by rw [List.length_take, HNL.out]; omega) (Nat.le_refl _) (by omega)
        have hb1 : Below wc.heap.size wc w1 := (Below.refl _ _).grown hgr1 (Nat.le_refl _) (fun k e => by cases e)
        obtain ⟨y0, y1, y2, y3, y4, y5⟩ := HYz.out.below hb1 hwy
        simp only [Nat.zero_add] at y1 y2 y3 y4 y5
        have hA2 : ItemsAt (w1.alloc (.cells #[.string y.id, .string y.pack, .int .i64 y.kind, .int .i64 y.off, .int .i64 y.long, .int .i64 y.size] 32)) (some ⟨w1.heap.size, 0, none⟩) [y] := one_item w1 y
        obtain ⟨o2, w2, hrun2, hown2, hgr2, _, _⟩ := append_items wc.heap.size _ o1 (0 + k) 1 1 _ _ [y] (hown1.alloc _) hA2 rfl (by have := hb1.size; simp; omega) (by omega)
        have hb2 : Below wc.heap.size wc w2 := (hb1.alloc hb1.size _).grown hgr2 (by have := hb1.size; simp; omega) (fun k e => (hown1.lt k e).1)
        have hp2 := (HTz.out.below hb2).cell
        have HB2 := Lib.hid hb2
        have HRUN2 := Lib.hid hrun2
        have HO2 := Lib.hid hown2
        clear hown1 hgr1 hb1 hA2 hown2 hgr2 hb2 hrun2
        go_upto_region 7 with (at_builtin; refine Lib.wpList_append_run _ rfl (.tmp 44) (.tmp 50) _ _ rfl _ _ rfl rfl _ _ hrun1 ?_)
        have hrun2 := HRUN2.out
        clear hrun1 HRUN2
        go_upto_region 8 with (at_builtin; refine Lib.wpList_append_run _ rfl (.tmp 52) (.tmp 54) _ _ rfl _ _ rfl rfl _ _ hrun2 ?_)
        clear hrun2 y0 y1 y2 y3 y4 y5
        rcases Nat.lt_or_ge k c with hrc | hrc
        · obtain ⟨g, o, hgo, hdr⟩ := drop_items HTz.out.row k hrc
          cases hgo
          have hne : ¬ c = k := by omega
          obtain ⟨o3, w3, hrun3, hown3, hgr3, _, _⟩ := append_items wc.heap.size w2 o2 (0 + k + 1) 0 (c - k) _ (some ⟨g, o + k * 6, none⟩) (l.drop k) HO2.out (hdr.below HB2.out) (by rw [List.length_drop, HNL.out]; omega) HB2.out.size (by omega)
          have HF := Lib.hid (put_done HTz.out HBz.out HB2.out HO2.out hown3 hgr3 (by rw [HNL.out]; omega) HNI.out)
          have hc3 := put_cell HTz.out HB2.out HO2.out hgr3
          have hf3 := put_frozen HTz.out HB2.out HO2.out hgr3
          obtain ⟨A3, n3, c3, rfl⟩ := own_form hown3
          clear hown3 hgr3 hdr
          go_wp2_with (at_builtin; refine Lib.wpList_append_run _ rfl (.tmp 57) (.tmp 63) _ _ rfl _ _ rfl rfl _ _ hrun3 ?_)
          go_end0
          exact HF.out
        · skip
          -- SKIP V
          have hrc2 : k = c := by omega
          obtain ⟨o3, w3, hrun3, hown3, hgr3, _, _⟩ := append_items wc.heap.size w2 o2 (0 + k + 1) 0 0 _ A (l.drop k) HO2.out (.inl (List.drop_eq_nil_of_le (by rw [HNL.out]; omega))) (by rw [List.length_drop, HNL.out]; omega) HB2.out.size (by omega)
          have HF := Lib.hid (put_done HTz.out HBz.out HB2.out HO2.out hown3 hgr3 (by rw [HNL.out]; omega) HNI.out)
          have hc3 := put_cell HTz.out HB2.out HO2.out hgr3
          have hf3 := put_frozen HTz.out HB2.out HO2.out hgr3
          obtain ⟨A3, n3, c3, rfl⟩ := own_form hown3
          subst hrc2
          clear hown3 hgr3
          go_wp2_with (at_builtin; refine Lib.wpList_append_run _ rfl (.tmp 57) (.tmp 63) _ _ rfl _ _ rfl rfl _ _ hrun3 ?_)
          go_end0
          exact HF.out
          -- END V
        -- END U
end Go.Proofs.Ytgigihlmpdpggaa
