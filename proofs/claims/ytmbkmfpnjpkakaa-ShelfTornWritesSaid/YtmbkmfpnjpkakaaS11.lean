/- The program's shelf: Peek, Rot, Lose, Misdirect. -/
import Derived.Test.YtmbkmfpnjpkakaaS10
namespace Go.Proofs.Ytmbkmfpnjpkakaa
open Go.RowKit Go.Im Go.Dsk0

theorem zero9' (w : World) : (zeroValue 9).run Try.prog w = .ok (.string ⟨#[]⟩) w := by kernel_rfl

theorem peek1_calls (L : Loc) (D : Dsk) (t n : Int) (tb : Nat) (v0 : Value) (w : World) (h : DK w L D) (hb : w.heap[tb]? = some (.cells #[v0] 9 (0, 0))) :
    Calls Try.prog 64 #[.agg #[L.ptr, .int .i64 t], .int .i64 n, .pointer (some ⟨tb, 0, none⟩)] w fun e w' => e = .returned (.int .i64 (Dsk0.read D n).2) ∧ w'.heap[tb]? = some (.cells #[.string ⟨(Dsk0.read D n).1.toArray⟩] 9 (0, 0)) ∧ Fr (fun q => q = tb) w w' := by
  have H := Lib.hid h; clear h
  have HB := Lib.hid hb; clear hb
  have htl := lt_of_blk HB.out
  obtain ⟨X, hX⟩ : ∃ X : ByteArray, X = ⟨(Dsk0.read D n).1.toArray⟩ := ⟨_, rfl⟩
  obtain ⟨E, hE⟩ : ∃ E, E = (Dsk0.read D n).2 := ⟨_, rfl⟩
  rw [← hX, ← hE]
  unfold Loc.ptr
  go_enter Try.func64, Try.ntmps64
  go_wp2_with (first
    | (refine im_box rfl 106 _ rfl rfl ?_; intro w1 b1 f1 z1; have q0 : w1.cell? ⟨w.heap.size, 0, none⟩ = some (.pointer (some ⟨L.g, 0, none⟩)) := cell_of_blk b1; clear b1 z1))
  refine (read_calls L.g L.bd L.bc L.ba D n w1 (H.out.keep f1).disk).mono ?_; rintro e w2 ⟨rfl, f2⟩
  rw [← hX, ← hE]
  have HX := Lib.hid hX; clear hX
  have HE := Lib.hid hE; clear hE
  have f12 := f1.trans f2
  have HB2 := Lib.hid ((f12.block _ htl (fun h => h)).trans HB.out)
  go_wp2_with (first
    | (refine im_store1 rfl 9 _ _ rfl (b := tb) (j := 0) (v := .string X) rfl rfl rfl (by kernel_rfl) HB2.out (by simp) ?_; intro w3 b3 f3 z3; have B3 := Lib.hid b3; clear b3; clear z3))
  go_ret
  exact ⟨rfl, B3.out, f12.no.trans f3⟩

section
variable {w : World} {O : Nat → Prop} {s : Nat} {S : Shf0.Shelf}

/-- A sector of a bay in service can be read. -/
theorem read_ok {bs : List (Loc × Shf0.Bay)} {im : List (Loc × Dsk)} {bv iv : Value} (h : ShelfIn w O s S bs im bv iv) {p : Shf0.Place} (ht : Shf0.there S p) (hst : Shf0.state S p.disk = 1) {k : Nat} (hk : p.disk = k) {L : Loc} {b : Shf0.Bay} (hx : bs[k]? = some (L, b)) :
    Dsk0.has b.D (Shf0.number S p) = true ∧ Shf0.bayD S p.disk.toNat = b.D := by
  have hn := Shf0.number_bd h.ok ht
  have hb : b.st = 1 := by rw [hk, state_at h hx] at hst; exact hst
  have hlen : (b.D.length : Int) = Shf0.sectors S.cfg := h.ok.len b (by rw [h.eb]; exact List.mem_map.2 ⟨(L, b), List.mem_of_getElem? hx, rfl⟩) (by omega)
  exact ⟨has_iff.2 ⟨hn.1, by omega⟩, by rw [hk, Int.toNat_natCast]; exact bayD_at h hx⟩

set_option maxRecDepth 100000 in
set_option maxHeartbeats 1000000 in
theorem peek_calls (h : ShelfAt w O s S) (p : Shf0.Place) : Calls Try.prog 19 #[.pointer (some ⟨s, 0, none⟩), placeV p] w fun e w' => e = .returned (.tuple #[.string ⟨(Shf0.peek S p).1.toArray⟩, .bool (Shf0.peek S p).2]) ∧ Fr (fun _ => False) w w' := by
  have H := Lib.hid h
  obtain ⟨R, hR⟩ : ∃ R, R = Shf0.peek S p := ⟨_, rfl⟩
  have hR' : R = if Shf0.there S p ∧ Shf0.state S p.disk = 1 then ((Dsk0.read (Shf0.bayD S p.disk.toNat) (Shf0.number S p)).1, true) else ([], false) := by rw [hR]; rfl
  rw [← hR]
  clear hR
  clear h
  by_cases ht : Shf0.there S p
  · by_cases hst : Shf0.state S p.disk = 1
    · rw [if_pos ⟨ht, hst⟩] at hR'
      have HR := Lib.hid hR'; clear hR'
      have HT := Lib.hid (And.intro ht hst); clear ht hst
      obtain ⟨d, area, idx⟩ := p
      unfold placeV
      simp only
      go_enter Try.func19, Try.ntmps19
      go_wp2_with (first
        | (refine im_box rfl 25 _ rfl rfl ?_; intro w1 b1 f1 z1; have Z1 := Lib.hid z1; clear z1; obtain ⟨p0, p1, p2⟩ := plc_cells (p := ⟨d, area, idx⟩) b1; have hl1 := lt_of_blk b1; clear b1)
        | (refine im_alloc1 rfl 9 rfl (zero9' _) rfl ?_; intro w2 b2 f2 z2; have B2 := Lib.hid b2; clear b2; have Z2 := Lib.hid z2; clear z2; have p0' := (f2.cb hl1 (fun h => h)).trans p0; have p1' := (f2.cb hl1 (fun h => h)).trans p1; have p2' := (f2.cb hl1 (fun h => h)).trans p2))
      have f12 := f1.trans f2
      refine (arm_peek (.pointer (some ⟨w1.heap.size, 0, none⟩)) (fun L D r w3 w' => r = (Dsk0.read D (Shf0.number S ⟨d, area, idx⟩)).2 ∧ w'.heap[w1.heap.size]? = some (.cells #[.string ⟨(Dsk0.read D (Shf0.number S ⟨d, area, idx⟩)).1.toArray⟩] 9 (0, 0)) ∧ Fr (fun q => q = w1.heap.size) w3 w') (H.out.keep f12) ⟨d, area, idx⟩ HT.out.1 HT.out.2
        (fun L D t w3 hf hk => (peek1_calls L D t _ _ _ w3 hk ((hf.block _ (lt_of_blk B2.out) (fun h => h)).trans B2.out)).mono fun e w' ⟨he, h1, h2⟩ => ⟨_, he, rfl, h1, h2⟩)).mono ?_
      rintro e w4 ⟨r, w3, bs, im, bv, iv, k, L, b, rfl, f3, hin, hdk, hx, rfl, hb4, f4⟩
      obtain ⟨hhas, hbay⟩ := read_ok hin HT.out.1 HT.out.2 hdk hx
      have hrd : (Dsk0.read b.D (Shf0.number S ⟨d, area, idx⟩)).2 = 0 := by unfold Dsk0.read; rw [if_pos hhas]
      have hRe : R = ((Dsk0.read b.D (Shf0.number S ⟨d, area, idx⟩)).1, true) := by rw [HR.out, hbay]
      rw [hrd]
      subst hRe
      obtain ⟨X, hX⟩ : ∃ X : ByteArray, X = ⟨(Dsk0.read b.D (Shf0.number S ⟨d, area, idx⟩)).1.toArray⟩ := ⟨_, rfl⟩
      rw [← hX] at hb4
      have c9 : w4.cell? ⟨w1.heap.size, 0, none⟩ = some (.string X) := cell_of_blk hb4
      have HX := Lib.hid hX; clear hX
      have ff : Fr (fun _ => False) w w4 := (f12.trans f3).trans' f4 (fun _ _ h => h) (fun q hq h => by have := f1.size; omega)
      clear hb4 f4 f3 hin hx hhas hbay hrd f12 p0 p1 p2 p0' p1' p2' hdk
      go_wp2_with fail
      go_ret2
      exact ⟨by rw [← HX.out]; rfl, ff⟩
    · rw [if_neg (fun h => hst h.2)] at hR'
      subst hR'
      have HT := Lib.hid (And.intro ht hst); clear ht hst
      obtain ⟨d, area, idx⟩ := p
      unfold placeV
      simp only
      go_enter Try.func19, Try.ntmps19
      go_wp2_with (first
        | (refine im_box rfl 25 _ rfl rfl ?_; intro w1 b1 f1 z1; have Z1 := Lib.hid z1; clear z1; obtain ⟨p0, p1, p2⟩ := plc_cells (p := ⟨d, area, idx⟩) b1; have hl1 := lt_of_blk b1; clear b1)
        | (refine im_alloc1 rfl 9 rfl (zero9' _) rfl ?_; intro w2 b2 f2 z2; have B2 := Lib.hid b2; clear b2; have Z2 := Lib.hid z2; clear z2; have p0' := (f2.cb hl1 (fun h => h)).trans p0; have p1' := (f2.cb hl1 (fun h => h)).trans p1; have p2' := (f2.cb hl1 (fun h => h)).trans p2))
      have f12 := f1.trans f2
      refine (arm_gone _ (H.out.keep f12) ⟨d, area, idx⟩ HT.out.1 HT.out.2).mono ?_
      rintro e w4 ⟨rfl, f4⟩
      have c9 : w4.cell? ⟨w1.heap.size, 0, none⟩ = some (.string ⟨#[]⟩) := (f4.cb (lt_of_blk B2.out) (fun h => h)).trans (cell_of_blk B2.out)
      go_wp2_with fail
      go_ret2
      exact ⟨rfl, f12.trans f4⟩
  · rw [if_neg (fun h => ht h.1)] at hR'
    subst hR'
    have HT := Lib.hid ht; clear ht
    obtain ⟨d, area, idx⟩ := p
    unfold placeV
    simp only
    go_enter Try.func19, Try.ntmps19
    go_wp2_with (first
      | (refine im_box rfl 25 _ rfl rfl ?_; intro w1 b1 f1 z1; have Z1 := Lib.hid z1; clear z1; obtain ⟨p0, p1, p2⟩ := plc_cells (p := ⟨d, area, idx⟩) b1; have hl1 := lt_of_blk b1; clear b1)
      | (refine im_alloc1 rfl 9 rfl (zero9' _) rfl ?_; intro w2 b2 f2 z2; have B2 := Lib.hid b2; clear b2; have Z2 := Lib.hid z2; clear z2; have p0' := (f2.cb hl1 (fun h => h)).trans p0; have p1' := (f2.cb hl1 (fun h => h)).trans p1; have p2' := (f2.cb hl1 (fun h => h)).trans p2))
    have f12 := f1.trans f2
    refine (arm_no _ true (H.out.keep f12) ⟨d, area, idx⟩ (fun h => HT.out h.1)).mono ?_
    rintro e w4 ⟨rfl, f4⟩
    have c9 : w4.cell? ⟨w1.heap.size, 0, none⟩ = some (.string ⟨#[]⟩) := (f4.cb (lt_of_blk B2.out) (fun h => h)).trans (cell_of_blk B2.out)
    go_wp2_with fail
    go_ret2
    exact ⟨rfl, f12.trans f4⟩
end
end Go.Proofs.Ytmbkmfpnjpkakaa
