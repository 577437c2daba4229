import Derived.Test.YtgigihlmpdpggaaQm
namespace Go.Proofs.Ytgigihlmpdpggaa
open Go.RowKit
theorem ownsRow_keep {w w' : World} {B s n : Nat} {t : TypeId} {v : Value} {xs : List Value} (h : w.ownsRow B t s v n xs) (hb : Below w.heap.size w w') : w'.ownsRow B t s v n xs :=
  h.kept (grownBy_of_below hb none) (by cases v.ownBlock <;> simp)
theorem block_own {w : World} {B n c N s : Nat} {t : TypeId} {A : Option Addr} {xs : List Value} (h : w.ownsRow B t s (.slice A n c) n xs) (hN : N = n * s) : n = 0 ∨ ∃ g, A = some ⟨g, 0, none⟩ ∧ B ≤ g ∧ BlockAt w g t N := by
  rcases h.2 with ⟨e, _⟩ | ⟨g, cap, cur, e, hg, hb, hn, hc, hsz, _⟩
  · injection e with _ e2 _; exact .inl e2
  · injection e with e1 _ _
    refine .inr ⟨g, e1, hg, cur, hb, ?_⟩
    rw [hsz, hN]
    exact Nat.mul_le_mul_right _ hn
/-- What 'Get' comes to, either one: five fields and whether there is one. -/
def Five (w : World) (s : ByteArray) (k o l z : Int) (b : Bool) (e : Ending) (w' : World) : Prop :=
  e = .returned (.tuple #[.agg #[.string s, .int .i64 k, .int .i64 o, .int .i64 l, .int .i64 z], .bool b]) ∧ Below w.heap.size w w'
theorem five_of (ys : List It) : ∃ s k o l z b, ∀ w e w', Got w ys e w' → Five w s k o l z b e w' := by
  cases ys with
  | nil => exact ⟨ByteArray.empty, 0, 0, 0, 0, false, fun w e w' h => h⟩
  | cons y t => exact ⟨y.pack, y.kind, y.off, y.long, y.size, true, fun w e w' h => h⟩
/-- 'Places', with its slice written out. -/
def PlacedS (w : World) (ys : List It) (n : Nat) (e : Ending) (w' : World) : Prop := ∃ A c, e = .returned (.slice A n c) ∧ w'.ownsRow w.heap.size 30 5 (.slice A n c) n (pflat ys) ∧ Below w.heap.size w w'
theorem placedS {w w' : World} {ys : List It} {n : Nat} {e : Ending} (h : Placed w ys e w') (hn : ys.length = n) : PlacedS w ys n e w' := by
  obtain ⟨v, rfl, hown, hb⟩ := h
  rw [hn] at hown
  rcases hown.2 with ⟨rfl, h0⟩ | ⟨g, cap, cur, rfl, _⟩
  · subst h0; exact ⟨_, _, rfl, hown, hb⟩
  · exact ⟨_, _, rfl, hown, hb⟩
/-- Texts, with their slice written out. -/
def TextsS (w : World) (ss : List ByteArray) (n : Nat) (e : Ending) (w' : World) : Prop := ∃ A c, e = .returned (.slice A n c) ∧ w'.ownsRow w.heap.size 9 1 (.slice A n c) n (strs ss) ∧ Below w.heap.size w w'
theorem textsS {w w' : World} {ss : List ByteArray} {n : Nat} {v : Value} {e : Ending} (he : e = .returned v) (hown : w'.ownsRow w.heap.size 9 1 v ss.length (strs ss)) (hb : Below w.heap.size w w') (hn : ss.length = n) : TextsS w ss n e w' := by
  subst he
  rw [hn] at hown
  rcases hown.2 with ⟨rfl, h0⟩ | ⟨g, cap, cur, rfl, _⟩
  · subst h0; exact ⟨_, _, rfl, hown, hb⟩
  · exact ⟨_, _, rfl, hown, hb⟩
/-- 'All', with its slice written out, and its own block. -/
def ItemsS (w : World) (l : List It) (n : Nat) (e : Ending) (w' : World) : Prop := ∃ A c, e = .returned (.slice A n c) ∧ w'.ownsRow w.heap.size 32 6 (.slice A n c) n (flat l) ∧ Below w.heap.size w w'
theorem itemsS {w w' : World} {L : List (List It)} {l : List It} {n : Nat} {e : Ending} (h : Alled w L e w') (hl : L.flatten = l) (hn : l.length = n) : ItemsS w l n e w' := by
  obtain ⟨v, rfl, hown, hb⟩ := h
  rw [hl, hn] at hown
  rcases hown.2 with ⟨rfl, h0⟩ | ⟨g, cap, cur, rfl, _⟩
  · subst h0; exact ⟨_, _, rfl, hown, hb⟩
  · exact ⟨_, _, rfl, hown, hb⟩
theorem items_own {w : World} {B n c : Nat} {A : Option Addr} {l : List It} (h : w.ownsRow B 32 6 (.slice A n c) n (flat l)) : ItemsAt w A l := by
  have hl : l.length = n := by have := h.1; rw [flat_length] at this; omega
  rw [← hl] at h
  exact (row_any h).items
/-- The cells that the great test of 'same' reads. -/
structure Reads (W : World) (B g h p : Nat) (id s : ByteArray) (k o l z : Int) (v : Value) : Prop where
  i0 : W.cell? ⟨B, 0, none⟩ = some (.string id)
  g0 : W.cell? ⟨g, 0, none⟩ = some (.string s)
  g1 : W.cell? ⟨g, 1, none⟩ = some (.int .i64 k)
  g2 : W.cell? ⟨g, 2, none⟩ = some (.int .i64 o)
  g3 : W.cell? ⟨g, 3, none⟩ = some (.int .i64 l)
  g4 : W.cell? ⟨g, 4, none⟩ = some (.int .i64 z)
  h0 : W.cell? ⟨h, 0, none⟩ = some (.string s)
  h1 : W.cell? ⟨h, 1, none⟩ = some (.int .i64 k)
  h2 : W.cell? ⟨h, 2, none⟩ = some (.int .i64 o)
  h3 : W.cell? ⟨h, 3, none⟩ = some (.int .i64 l)
  h4 : W.cell? ⟨h, 4, none⟩ = some (.int .i64 z)
  p0 : W.cell? ⟨p, 0, none⟩ = some v
  lB : B < W.heap.size
  lg : g < W.heap.size
  lh : h < W.heap.size
  lp : p < W.heap.size
theorem Reads.below {W W' : World} {B g h p : Nat} {id s : ByteArray} {k o l z : Int} {v : Value} (r : Reads W B g h p id s k o l z v) (hb : Below W.heap.size W W') : Reads W' B g h p id s k o l z v :=
  ⟨(hb.cell (p := ⟨B, 0, none⟩) r.lB).trans r.i0, (hb.cell (p := ⟨g, 0, none⟩) r.lg).trans r.g0, (hb.cell (p := ⟨g, 1, none⟩) r.lg).trans r.g1, (hb.cell (p := ⟨g, 2, none⟩) r.lg).trans r.g2, (hb.cell (p := ⟨g, 3, none⟩) r.lg).trans r.g3, (hb.cell (p := ⟨g, 4, none⟩) r.lg).trans r.g4,
   (hb.cell (p := ⟨h, 0, none⟩) r.lh).trans r.h0, (hb.cell (p := ⟨h, 1, none⟩) r.lh).trans r.h1, (hb.cell (p := ⟨h, 2, none⟩) r.lh).trans r.h2, (hb.cell (p := ⟨h, 3, none⟩) r.lh).trans r.h3, (hb.cell (p := ⟨h, 4, none⟩) r.lh).trans r.h4, (hb.cell (p := ⟨p, 0, none⟩) r.lp).trans r.p0,
   Nat.lt_of_lt_of_le r.lB hb.size, Nat.lt_of_lt_of_le r.lg hb.size, Nat.lt_of_lt_of_le r.lh hb.size, Nat.lt_of_lt_of_le r.lp hb.size⟩
theorem Reads.inline {W : World} {B g h p : Nat} {id s : ByteArray} {k o l z : Int} {v : Value} (r : Reads W B g h p id s k o l z v) : ∀ W', Below W.heap.size W W' →
    (W'.cell? ⟨B, 0, none⟩ = some (.string id) ∧ W'.cell? ⟨g, 0, none⟩ = some (.string s) ∧ W'.cell? ⟨g, 1, none⟩ = some (.int .i64 k) ∧ W'.cell? ⟨g, 2, none⟩ = some (.int .i64 o) ∧ W'.cell? ⟨g, 3, none⟩ = some (.int .i64 l) ∧ W'.cell? ⟨g, 4, none⟩ = some (.int .i64 z) ∧
     W'.cell? ⟨h, 0, none⟩ = some (.string s) ∧ W'.cell? ⟨h, 1, none⟩ = some (.int .i64 k) ∧ W'.cell? ⟨h, 2, none⟩ = some (.int .i64 o) ∧ W'.cell? ⟨h, 3, none⟩ = some (.int .i64 l) ∧ W'.cell? ⟨h, 4, none⟩ = some (.int .i64 z) ∧ W'.cell? ⟨p, 0, none⟩ = some v) := fun W' hb => by
  have r := r.below hb
  exact ⟨r.i0, r.g0, r.g1, r.g2, r.g3, r.g4, r.h0, r.h1, r.h2, r.h3, r.h4, r.p0⟩
theorem reads_new {w1 w2 : World} {B p : Nat} {id s : ByteArray} {k o l z : Int} {v : Value} (hB : B < w1.heap.size) (hi : w1.cell? ⟨B, 0, none⟩ = some (.string id)) (hp : w1.cell? ⟨p, 0, none⟩ = some v) (hpl : p < w1.heap.size)
    (hb : Below (w1.alloc (.cells #[.string s, .int .i64 k, .int .i64 o, .int .i64 l, .int .i64 z] 30)).heap.size (w1.alloc (.cells #[.string s, .int .i64 k, .int .i64 o, .int .i64 l, .int .i64 z] 30)) w2) :
    Reads (w2.alloc (.cells #[.string s, .int .i64 k, .int .i64 o, .int .i64 l, .int .i64 z] 30)) B w1.heap.size w2.heap.size p id s k o l z v := by
  have hs := hb.size
  simp only [World.size_alloc] at hs
  have hb12 : Below w1.heap.size w1 (w2.alloc (.cells #[.string s, .int .i64 k, .int .i64 o, .int .i64 l, .int .i64 z] 30)) := (((Below.refl _ _).alloc (Nat.le_refl _) _).trans (hb.mono (by simp))).alloc (by omega) _
  have hg : (w2.alloc (.cells #[.string s, .int .i64 k, .int .i64 o, .int .i64 l, .int .i64 z] 30)).heap[w1.heap.size]? = some (.cells #[.string s, .int .i64 k, .int .i64 o, .int .i64 l, .int .i64 z] 30 (0, 0)) := by
    rw [Below.heap_alloc _ _ _ (by omega), hb.block _ (by simp)]
    exact heap_alloc_new w1 _
  have hh := heap_alloc_new w2 (.cells #[.string s, .int .i64 k, .int .i64 o, .int .i64 l, .int .i64 z] 30)
  refine ⟨(hb12.cell (p := ⟨B, 0, none⟩) hB).trans hi, ?_, ?_, ?_, ?_, ?_, ?_, ?_, ?_, ?_, ?_, (hb12.cell (p := ⟨p, 0, none⟩) hpl).trans hp, by simp; omega, by simp; omega, by simp, by simp; omega⟩
  all_goals first | (rw [cell_of_row _ _ _ _ _ (0, 0) hg]; rfl) | (rw [cell_of_row _ _ _ _ _ (0, 0) hh]; rfl)
set_option maxHeartbeats 8000000 in
set_option maxRecDepth 100000 in
theorem same_any (b p : Nat) (V : List Value) (v : Value) (L : List (List It)) (S : It → Prop) (l : List It) (x : It) (w : World) (ht : Tab w b V L) (hr : RTab w p v l) (hf : Fine L S) (hl : L.flatten = l) (hlen : ∀ xs ∈ L, xs.length ≤ 65536) (hn : l.length ≤ 65536) :
    Calls Try.prog 21 #[.pointer (some ⟨b, 0, none⟩), .pointer (some ⟨p, 0, none⟩), x.val] w fun e w' => e = .returned (.bool true) ∧ Below w.heap.size w w' := by
  obtain ⟨xs, hxs⟩ := hf.at_ x.id
  have hhits := hits_flat hf x.id hxs
  rw [hl] at hhits
  have hxr := hf.rise _ xs hxs
  have hxl := hlen xs (List.mem_of_getElem? hxs)
  obtain ⟨ys, hys⟩ : ∃ ys, l.filter (hasId x.id) = ys := ⟨_, rfl⟩
  rw [hys] at hhits
  obtain ⟨s, k, o, lo, z, gb, hfive⟩ := five_of ys
  have HG := fun W h => Lib.hid ((get_any b V L x.id xs W h hxs hxr hxl).mono fun e w' hh => hfive W e w' (by rw [hhits] at hh; exact hh))
  have HRG := fun W h => Lib.hid ((rget_any p v l x.id W h hn).mono fun e w' hh => hfive W e w' (by rw [hys] at hh; exact hh))
  obtain ⟨ny, hny⟩ : ∃ ny, ys.length = ny := ⟨_, rfl⟩
  have hnyb : ny ≤ 65536 := by
    have := List.length_filter_le (hasId x.id) l
    rw [hys, hny] at this
    omega
  have HP := fun W h => Lib.hid ((places_any b V L x.id xs W h hxs hxr hxl).mono fun e w' hh => placedS (by rw [hhits] at hh; exact hh) hny)
  have HRP := fun W h => Lib.hid ((rplaces_any p v l x.id W h hn).mono fun e w' hh => placedS (by rw [hys] at hh; exact hh) hny)
  obtain ⟨n, hnl⟩ : ∃ n, l.length = n := ⟨_, rfl⟩
  have HAL := fun W h => Lib.hid ((all_any b V L W h hlen).mono fun e w' hh => itemsS hh hl hnl)
  obtain ⟨is, his⟩ : ∃ is, idsTo l l.length = is := ⟨_, rfl⟩
  obtain ⟨ni, hni⟩ : ∃ ni, is.length = ni := ⟨_, rfl⟩
  have hnib : ni ≤ 65536 := by
    have := idsTo_length l l.length
    rw [his, hni] at this
    omega
  have HI := fun W h => Lib.hid ((ids_any b V L W h hlen (by rw [hl]; exact hn)).mono fun e w' hh => by
    obtain ⟨u, h1, h2, h3⟩ := hh
    rw [hl, his] at h2
    exact textsS h1 h2 h3 hni)
  have HRI := fun W h => Lib.hid ((rids_any p v l W h hn).mono fun e w' hh => by
    obtain ⟨u, h1, h2, h3⟩ := hh
    rw [his] at h2
    exact textsS h1 h2 h3 hni)
  obtain ⟨ps, hps⟩ : ∃ ps, rpacks l = ps := ⟨_, rfl⟩
  obtain ⟨np, hnp⟩ : ∃ np, ps.length = np := ⟨_, rfl⟩
  have hnpb : np ≤ 65536 := by
    have := rpacks_length l []
    rw [show l.foldl (fun out x => pins x.pack out) [] = ps from hps, hnp] at this
    simp at this
    omega
  have HQ := fun W h => Lib.hid ((packs_any b V L W h hlen (by rw [hl]; exact hn)).mono fun e w' hh => by
    obtain ⟨u, h1, h2, h3⟩ := hh
    have e1 : (packsOf L).map encStr = strs ps := by rw [packs_strs, hl, hps]
    have e2 : (packsOf L).length = ps.length := by have := congrArg List.length e1; simpa [strs] using this
    rw [e1, e2] at h2
    exact textsS h1 h2 h3 hnp)
  have HRQ := fun W h => Lib.hid ((rpacks_any p v l W h hn).mono fun e w' hh => by
    obtain ⟨u, h1, h2, h3⟩ := hh
    rw [hps] at h2
    exact textsS h1 h2 h3 hnp)
  have HLN := fun W h => Lib.hid (len_of b V L n W h hlen (by rw [hl, hnl]))
  have HSP := fun A B c d W h1 h2 => Lib.hid (same_places A B c d ny ys W (by omega) hny h1 h2)
  have HSI := fun A B c d W h1 h2 => Lib.hid (same_items A B c d n l W (by omega) hnl h1 h2)
  have HS1 := fun A B c d W h1 h2 => Lib.hid (same_texts A B c d ni is W (by omega) hni h1 h2)
  have HS2 := fun A B c d W h1 h2 => Lib.hid (same_texts A B c d np ps W (by omega) hnp h1 h2)
  have HX1 := fun A c W h => Lib.hid (spoil_texts A ni c W (by omega) h)
  have HX2 := fun A c W h => Lib.hid (spoil_texts A np c W (by omega) h)
  obtain ⟨RA, rc, hv⟩ := hr.row.lenV
  rw [hnl] at hv
  subst hv
  have HT := Lib.hid ht
  have HR := Lib.hid hr
  have hnb : n ≤ 65536 := by omega
  clear hfive hhits hys hny hnl his hni hps hnp ht hr hf hl hlen hn hxs hxr
  go_enter Try.func21, Try.ntmps21
  have hbx : Below w.heap.size w (w.alloc (.cells x.cells.toArray 32)) := (Below.refl _ _).alloc (Nat.le_refl _) _
  go_wp2_with fail
  refine Calls.mono (HG _ (HT.out.but (S := fun _ => False) (But.of_below hbx) (fun _ _ h => h))).out ?_
  rintro e w1 ⟨rfl, hb1⟩
  have HB1 := Lib.hid (hbx.trans (hb1.mono (by simp)))
  have hi1 := ((CellsAt.new w x).below hb1 (by simp)).c0
  have hlt1 : w.heap.size < w1.heap.size := by have := hb1.size; simp at this; omega
  clear hb1 HG
  have hp1 := (HR.out.below HB1.out).cell
  have hpl1 := (HR.out.below HB1.out).lt
  go_wp2_with fail
  refine Calls.mono (HRG _ ((HR.out.below HB1.out).below ((Below.refl _ _).alloc (Nat.le_refl _) _))).out ?_
  rintro e w2 ⟨rfl, hb2⟩
  have hrd := reads_new hlt1 hi1 hp1 hpl1 hb2
  have hs12 : w1.heap.size + 1 ≤ w2.heap.size := by have := hb2.size; simpa using this
  have HB2 : Hid (Below w.heap.size w (w2.alloc (.cells #[.string s, .int .i64 k, .int .i64 o, .int .i64 lo, .int .i64 z] 30))) := ((HB1.out.alloc HB1.out.size _).trans (hb2.mono (by have := HB1.out.size; simp; omega))).alloc (by omega) _
  have HRD := Lib.hid hrd
  have hi2 := (hb2.cell (p := ⟨w.heap.size, 0, none⟩) (by simp; omega)).trans ((World.cell?_alloc_past _ _ _ hlt1).trans hi1)
  have hlt2 : w.heap.size < w2.heap.size := by omega
  clear hb2 hrd hp1 hi1 HRG
  go_wp2_with fail
  refine Calls.mono (HP _ (HT.out.but (S := fun _ => False) (But.of_below HB2.out) (fun _ _ h => h))).out ?_
  rintro e w3 ⟨A1, c1, rfl, hown1, hb3⟩
  have HO1 := Lib.hid (ownsRow_base HB2.out.size hown1)
  have HB3 := Lib.hid (HB2.out.trans (hb3.mono HB2.out.size))
  have HRD3 := Lib.hid (HRD.out.below hb3)
  clear hown1 hb3 HP HRD
  go_wp2_with fail
  refine Calls.mono (HAL _ (HT.out.but (S := fun _ => False) (But.of_below HB3.out) (fun _ _ h => h))).out ?_
  rintro e w4 ⟨A2, c2, rfl, hown2, hb4⟩
  have HO2 := Lib.hid (ownsRow_base HB3.out.size hown2)
  have HO1' := Lib.hid (ownsRow_keep HO1.out hb4)
  have HB4 := Lib.hid (HB3.out.trans (hb4.mono HB3.out.size))
  have HRD4 := Lib.hid (HRD3.out.below hb4)
  clear hown2 hb4 HAL HRD3 HO1
  go_wp2_with fail
  refine Calls.mono (HI _ (HT.out.but (S := fun _ => False) (But.of_below HB4.out) (fun _ _ h => h))).out ?_
  rintro e w5 ⟨A3, c3, rfl, hown3, hb5⟩
  have HO3 := Lib.hid (ownsRow_base HB4.out.size hown3)
  have HO1 := Lib.hid (ownsRow_keep HO1'.out hb5)
  have HO2' := Lib.hid (ownsRow_keep HO2.out hb5)
  have HB5 := Lib.hid (HB4.out.trans (hb5.mono HB4.out.size))
  have HRD5 := Lib.hid (HRD4.out.below hb5)
  clear hown3 hb5 HI HRD4 HO1' HO2
  go_wp2_with fail
  refine Calls.mono (HQ _ (HT.out.but (S := fun _ => False) (But.of_below HB5.out) (fun _ _ h => h))).out ?_
  rintro e w6 ⟨A4, c4, rfl, hown4, hb6⟩
  have HO4 := Lib.hid (ownsRow_base HB5.out.size hown4)
  have HO1' := Lib.hid (ownsRow_keep HO1.out hb6)
  have HO2 := Lib.hid (ownsRow_keep HO2'.out hb6)
  have HO3' := Lib.hid (ownsRow_keep HO3.out hb6)
  have HB6 := Lib.hid (HB5.out.trans (hb6.mono HB5.out.size))
  have HRD6 := Lib.hid (HRD5.out.below hb6)
  clear hown4 hb6 HQ HRD5 HO1 HO2' HO3 HB1 HB2 HB3 HB4 HB5 hi2
  go_upto_region 5 with fail
  -- the great test
  go_cut [15] (fun q wx => q = .bool true ∧ Below w6.heap.size w6 wx)
  case first =>
    -- SKIP A
    have HS := Lib.hid HRD6.out.inline
    have HPL := Lib.hid (places_of HO1'.out)
    have HIT := Lib.hid (items_own HO2.out)
    have HTX := Lib.hid (texts_of HO3'.out)
    have HTY := Lib.hid (texts_of HO4.out)
    have HTB := fun W (h : Below w6.heap.size w6 W) => Lib.hid (HT.out.but (S := fun _ => False) (But.of_below (HB6.out.trans (h.mono HB6.out.size))) (fun _ _ h => h))
    have HRB := fun W (h : Below w6.heap.size w6 W) => Lib.hid (HR.out.below (HB6.out.trans (h.mono HB6.out.size)))
    have tok1 : True := trivial
    have hbz : Below w6.heap.size w6 w6.drew := (Below.refl _ _).drew
    go_region_held3 (fun W' => W'.cell? ⟨w.heap.size, 0, none⟩ = some (.string x.id) ∧ W'.cell? ⟨w1.heap.size, 0, none⟩ = some (.string s) ∧ W'.cell? ⟨w1.heap.size, 1, none⟩ = some (.int .i64 k) ∧ W'.cell? ⟨w1.heap.size, 2, none⟩ = some (.int .i64 o) ∧ W'.cell? ⟨w1.heap.size, 3, none⟩ = some (.int .i64 lo) ∧ W'.cell? ⟨w1.heap.size, 4, none⟩ = some (.int .i64 z) ∧
        W'.cell? ⟨w2.heap.size, 0, none⟩ = some (.string s) ∧ W'.cell? ⟨w2.heap.size, 1, none⟩ = some (.int .i64 k) ∧ W'.cell? ⟨w2.heap.size, 2, none⟩ = some (.int .i64 o) ∧ W'.cell? ⟨w2.heap.size, 3, none⟩ = some (.int .i64 lo) ∧ W'.cell? ⟨w2.heap.size, 4, none⟩ = some (.int .i64 z) ∧ W'.cell? ⟨p, 0, none⟩ = some (.slice RA n rc))
      (first | exact HS.out _ hbz)
      (first
        | (go_at_call 39; refine Calls.mono (HRP _ (HRB _ hbz).out).out ?_; rintro e w7 ⟨A5, c5, rfl, hown5, hb7⟩; have hbz := hbz.trans (hb7.mono hbz.size); have HPL5 := Lib.hid (places_of hown5); clear hown5)
        | (go_at_call 38; refine Calls.mono (HSP _ _ _ _ _ (HPL.out.below hbz) HPL5.out).out ?_; rintro e w8 ⟨rfl, hb8⟩; have hbz := hbz.trans (hb8.mono hbz.size))
        | (go_at_call 9; refine Calls.mono (HSI _ _ _ _ _ (HIT.out.below hbz) (HRB _ hbz).out.row.items).out ?_; rintro e w9 ⟨rfl, hb9⟩; have hbz := hbz.trans (hb9.mono hbz.size))
        | (go_at_call 41; refine Calls.mono (HRI _ (HRB _ hbz).out).out ?_; rintro e w10 ⟨A6, c6, rfl, hown6, hb10⟩; have hbz := hbz.trans (hb10.mono hbz.size); have HTX6 := Lib.hid (texts_of hown6); clear hown6)
        | (go_at_call 40; have _t := tok1; refine Calls.mono (HS1 _ _ _ _ _ (HTX.out.below hbz) HTX6.out).out ?_; rintro e w11 ⟨rfl, hb11⟩; have hbz := hbz.trans (hb11.mono hbz.size); clear tok1)
        | (go_at_call 42; refine Calls.mono (HRQ _ (HRB _ hbz).out).out ?_; rintro e w12 ⟨A7, c7, rfl, hown7, hb12⟩; have hbz := hbz.trans (hb12.mono hbz.size); have HTX7 := Lib.hid (texts_of hown7); clear hown7)
        | (go_at_call 40; refine Calls.mono (HS2 _ _ _ _ _ (HTY.out.below hbz) HTX7.out).out ?_; rintro e w13 ⟨rfl, hb13⟩; have hbz := hbz.trans (hb13.mono hbz.size))
        | (go_at_call 11; refine Calls.mono (HLN _ (HTB _ hbz).out).out ?_; rintro e w14 ⟨rfl, rfl⟩))
    all_goals go_wp2
    all_goals go_meet
    all_goals (case rel => exact ⟨rfl, by assumption⟩)
    -- END A
  case rest =>
    obtain ⟨rfl, hbx⟩ := hcut
    have B1 := Lib.hid (block_own (N := ny * 5) (ownsRow_keep HO1'.out hbx) rfl)
    have B2 := Lib.hid (block_own (N := n * 6) (ownsRow_keep HO2.out hbx) rfl)
    have B3 := Lib.hid (block_own (N := ni) (ownsRow_keep HO3'.out hbx) (by omega))
    have B4 := Lib.hid (block_own (N := np) (ownsRow_keep HO4.out hbx) (by omega))
    have HBC := Lib.hid (HB6.out.trans (hbx.mono HB6.out.size))
    clear hbx HO1' HO2 HO3' HO4 HB6 HRD6 HT HR HRP HRI HRQ HLN HSP HSI HS1 HS2
    go_wp2
    go_loopw [16] (fun q wr => ∃ i : Nat, q = .int .i64 i ∧ i ≤ ny ∧ Below w.heap.size w wr ∧ Keeps wc wr) (fun q _ => ny - (intOf q).toNat)
    case atStart => exact ⟨0, rfl, Nat.zero_le _, HBC.out, Keeps.refl _⟩
    case round =>
      obtain ⟨i, rfl, hi, hb, hkp⟩ := hrel
      by_cases hin : i < ny
      · obtain ⟨g, rfl, hg, hbk⟩ : ∃ g, A1 = some ⟨g, 0, none⟩ ∧ w.heap.size ≤ g ∧ BlockAt wr g 30 (ny * 5) := by
          rcases B1.out with h | ⟨g, h1, h2, h3⟩
          · omega
          · exact ⟨g, h1, h2, hkp _ _ _ h3⟩
        obtain ⟨u, hu⟩ := hbk.cell (j := i * 5 + 2) (by omega)
        have hfz := hbk.frozen (i * 5 + 2)
        have HBB := Lib.hid hb
        have HKP := Lib.hid hkp
        clear hb hkp hbk
        go_wp2
        go_roundw
        case rel => exact ⟨i + 1, by go_num, by omega, HBB.out.setCell (p := ⟨g, _, none⟩) hg _, HKP.out.trans (Keeps.setCell _ _ _ _)⟩
        case measure => simp [intOf]; omega
      · have HBB := Lib.hid hb
        have HKP := Lib.hid hkp
        clear hb hkp
        go_wp2
        go_loopw [17] (fun q w2 => ∃ i : Nat, q = .int .i64 i ∧ i ≤ n ∧ Below w.heap.size w w2 ∧ Keeps wc w2) (fun q _ => n - (intOf q).toNat)
        case atStart => exact ⟨0, rfl, Nat.zero_le _, HBB.out, HKP.out⟩
        case round =>
          obtain ⟨j, rfl, hj, hb, hkp⟩ := hrel
          by_cases hjn : j < n
          · obtain ⟨g, rfl, hg, hbk⟩ : ∃ g, A2 = some ⟨g, 0, none⟩ ∧ w.heap.size ≤ g ∧ BlockAt wr g 32 (n * 6) := by
              rcases B2.out with h | ⟨g, h1, h2, h3⟩
              · omega
              · exact ⟨g, h1, h2, hkp _ _ _ h3⟩
            obtain ⟨u, hu⟩ := hbk.cell (j := j * 6 + 3) (by omega)
            have hfz := hbk.frozen (j * 6 + 3)
            have hu2 : wr.cell? ⟨g, j * 6 + 1 + 2, none⟩ = some u := hu
            have hfz2 : wr.frozen? ⟨g, j * 6 + 1 + 2, none⟩ = false := hfz
            have HBB := Lib.hid hb
            have HKP := Lib.hid hkp
            clear hb hkp hbk
            go_wp2
            go_roundw
            case rel => exact ⟨j + 1, by go_num, by omega, HBB.out.setCell (p := ⟨g, _, none⟩) hg _, HKP.out.trans (Keeps.setCell _ _ _ _)⟩
            case measure => simp [intOf]; omega
          · have HBB := Lib.hid hb
            have HKP := Lib.hid hkp
            clear hb hkp
            go_wp2_with fail
            refine Calls.mono (HX1 _ _ _ (B3.out.imp id fun ⟨g, h1, _, h3⟩ => ⟨g, h1, HKP.out _ _ _ h3⟩)).out ?_
            rintro e w8 ⟨rfl, hbut, hk8⟩
            have hb8 : Below w.heap.size w w8 := HBB.out.trans (hbut.below HBB.out.size fun q hq hs => by
              rcases B3.out with h | ⟨g, h1, h2, _⟩
              · have := hs.1; omega
              · have h4 := hs.2; rw [h1] at h4; cases h4; omega)
            have HB8 := Lib.hid hb8
            have HK8 := Lib.hid (HKP.out.trans hk8)
            clear hbut hk8 hb8
            go_wp2_with fail
            refine Calls.mono (HX2 _ _ _ (B4.out.imp id fun ⟨g, h1, _, h3⟩ => ⟨g, h1, HK8.out _ _ _ h3⟩)).out ?_
            rintro e w9 ⟨rfl, hbut, hk9⟩
            have hb9 : Below w.heap.size w w9 := HB8.out.trans (hbut.below HB8.out.size fun q hq hs => by
              rcases B4.out with h | ⟨g, h1, h2, _⟩
              · have := hs.1; omega
              · have h4 := hs.2; rw [h1] at h4; cases h4; omega)
            have HB9 := Lib.hid hb9
            clear hbut hk9 hb9
            go_wp2
            go_ret
            exact ⟨rfl, HB9.out⟩
end Go.Proofs.Ytgigihlmpdpggaa
