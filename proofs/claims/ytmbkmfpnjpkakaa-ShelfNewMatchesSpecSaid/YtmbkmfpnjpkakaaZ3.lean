/- The reference shelf: Peek. -/
import Derived.Test.YtmbkmfpnjpkakaaZ2
namespace Go.Proofs.Ytmbkmfpnjpkakaa
open Go.RowKit Go.Im Go.Dsk0

section
variable {w : World} {R : Nat → Prop} {t : Nat} {S : Shf0.Shelf}

/-- A bay of the reference shelf, opened. -/
theorem RShelfIn.at {ds im : List (Nat × Nat)} {bv sv iv : Value} (h : RShelfIn w R t S ds im bv sv iv) {k : Nat} (hk : k < S.bays.length) : ∃ l b, ds[k]? = some l ∧ S.bays[k]? = some b ∧ RD w l b.D := by
  have h1 : (ds.map ptrC).length = S.bays.length * 1 := h.brow.1
  obtain ⟨l, hl⟩ : ∃ l, ds[k]? = some l := ⟨_, List.getElem?_eq_getElem (by simp at h1; omega)⟩
  obtain ⟨b, hb⟩ : ∃ b, S.bays[k]? = some b := ⟨_, List.getElem?_eq_getElem hk⟩
  exact ⟨l, b, hl, hb, h.kb k l b hl hb⟩

set_option maxRecDepth 100000 in
set_option maxHeartbeats 4000000 in
theorem rpeek_calls (h0 : RShelfAt w R t S) (p : Shf0.Place) : Calls Try.prog 20 #[.pointer (some ⟨t, 0, none⟩), placeV p] w fun e w' => e = .returned (.tuple #[.string ⟨(Shf0.peek S p).1.toArray⟩, .bool (Shf0.peek S p).2]) ∧ Fr (fun _ => False) w w' := by
  have hnum := fun W (f : Fr (fun _ => False) w W) => rnumber_calls p (h0.keep f)
  have hok := h0.ok
  by_cases ht : Shf0.there S p
  · obtain ⟨nn0, nn1⟩ := Shf0.number_bd hok ht
    obtain ⟨pd0, pd1⟩ := Shf0.there_disk ht
    obtain ⟨ds, im, bv, sv, iv, h⟩ := h0
    obtain ⟨hp1, hp2, -⟩ := h.pos
    obtain ⟨k, hk⟩ : ∃ k : Nat, p.disk = k := ⟨p.disk.toNat, by omega⟩
    have hkl : k < S.bays.length := by omega
    obtain ⟨l, b, hl, hb, hrd⟩ := h.at hkl
    obtain ⟨gb, bc, bcur, hbv, hbb, -, hbc⟩ := row1 h.brow hp1
    obtain ⟨gs, sc, scur, hsv, hsb, -, hsc⟩ := row1 h.srow hp1
    obtain ⟨N, hN⟩ : ∃ N, N = S.bays.length := ⟨_, rfl⟩
    have c6 : w.cell? ⟨t, 6, none⟩ = some (.slice (some ⟨gb, 0, none⟩) N bc) := by rw [hN, ← hbv]; exact cell_of_blk h.head
    have c7 : w.cell? ⟨t, 7, none⟩ = some (.slice (some ⟨gs, 0, none⟩) N sc) := by rw [hN, ← hsv]; exact cell_of_blk h.head
    have cb : w.cell? ⟨gb, k, none⟩ = some (.pointer (some ⟨l.1, 0, none⟩)) := hbc k (ptrC l) (by rw [List.getElem?_map, hl]; rfl)
    have cs : w.cell? ⟨gs, k, none⟩ = some (.int .i64 b.st) := hsc k (stC b) (by rw [List.getElem?_map, hb]; rfl)
    have htl := lt_of_blk h.head
    have hgb := lt_of_blk hbb
    have hgs := lt_of_blk hsb
    have hst : Shf0.state S p.disk = b.st := by
      unfold Shf0.state
      rw [if_pos ⟨pd0, pd1⟩, hk, Int.toNat_natCast, hb]; rfl
    have hbd : Shf0.bayD S p.disk.toNat = b.D := by unfold Shf0.bayD; rw [hk, Int.toNat_natCast, hb]; rfl
    obtain ⟨num, hnm⟩ : ∃ n, n = Shf0.number S p := ⟨_, rfl⟩
    have hnr : numR S p = num := by unfold numR; rw [if_pos ht, hnm]
    rw [hnr, decide_eq_true ht] at hnum
    rw [← hN] at hkl
    obtain ⟨d, area, idx⟩ := p
    simp only at hk hst hbd
    subst hk
    have hpk : Shf0.peek S ⟨(k : Int), area, idx⟩ = if b.st = 1 then ((Dsk0.read b.D num).1, true) else ([], false) := by
      unfold Shf0.peek
      simp only [hst, hbd, ← hnm]
      by_cases hb1 : b.st = 1
      · rw [if_pos ⟨ht, hb1⟩, if_pos hb1]
      · rw [if_neg fun h => hb1 h.2, if_neg hb1]
    obtain ⟨st, hst'⟩ : ∃ st, st = b.st := ⟨_, rfl⟩
    rw [← hst'] at cs hpk
    have HPK := Lib.hid hpk
    have HNUM := Lib.hid hnum
    have HRD := Lib.hid hrd
    have hkN : (k : Int) < N := by omega
    clear hnum hok ht h hl hb hrd hbv hbb hbc hsv hsb hsc hst hbd hnm hnr hpk hst' hN hp1 hp2 pd1 nn0 nn1
    unfold placeV at HNUM ⊢
    by_cases hs1 : st = 1
    · subst hs1
      have hpk := HPK.out
      rw [if_pos rfl] at hpk
      rw [hpk]
      clear hpk HPK
      have hone : ((1 : Int) != 1) = false := by decide
      go_enter Try.func20, Try.ntmps20
      go_wp2_with (first
        | (refine im_box rfl 25 _ rfl rfl ?_; intro w1 b1 f1 z1; have Z1 := Lib.hid z1; clear z1; obtain ⟨p0, p1, p2⟩ := plc_cells (p := ⟨(k : Int), area, idx⟩) b1; have hl1 := lt_of_blk b1; clear b1))
      refine (HNUM.out w1 f1).mono ?_; rintro e w2 ⟨rfl, f2⟩
      have f12 := f1.trans f2
      have q0 := (f2.cb hl1 (fun h => h)).trans p0
      have d6 := (f12.cb htl (fun h => h)).trans c6
      have d7 := (f12.cb htl (fun h => h)).trans c7
      have db := (f12.cb hgb (fun h => h)).trans cb
      have dsx := (f12.cb hgs (fun h => h)).trans cs
      have HF := Lib.hid f12
      clear p0 p1 p2 c6 c7 cb cs f1 f2 f12
      go_wp2_with fail
      go_quiet (fail)
      go_wp2_with fail
      obtain ⟨w3, hw3⟩ : ∃ w3, w3 = w2.drewN nq := ⟨_, rfl⟩
      have f3 : Fr (fun _ => False) w2 w3 := by rw [hw3]; exact (Fr.refl _ _).drewN _
      rw [← hw3]
      have htl2 := Nat.lt_of_lt_of_le htl HF.out.size
      have hgb2 := Nat.lt_of_lt_of_le hgb HF.out.size
      have e6 := (f3.cb htl2 (fun h => h)).trans d6
      have eb := (f3.cb hgb2 (fun h => h)).trans db
      have hl2 := World.block_lt_of_cell? w2 _ q0
      have e0 := (f3.cb hl2 (fun h => h)).trans q0
      have HF3 := Lib.hid (HF.out.trans f3)
      have htl3 := Nat.lt_of_lt_of_le htl2 f3.size
      have hgb3 := Nat.lt_of_lt_of_le hgb2 f3.size
      have hl3 := Nat.lt_of_lt_of_le hl2 f3.size
      clear hw3 f3 q0 d6 d7 db dsx htl2 hgb2 hl2 HF
      refine wp_region_seq (fun W => W.cell? ⟨t, 6, none⟩ = some (.slice (some ⟨gb, 0, none⟩) N bc) ∧ W.cell? ⟨gb, k, none⟩ = some (.pointer (some ⟨l.1, 0, none⟩)) ∧ W.cell? ⟨w.heap.size, 0, none⟩ = some (.int .i64 k)) [0, 1, 2, 3, 4, 5, 6, 7, 8, 9, 10, 11, 12, 13, 14] [9, 13, 14] (by kernel_rfl) (by kernel_rfl) (by kernel_rfl) ⟨e6, eb, e0⟩ ?_
      simp only [pickOps, List.filterMap_cons, List.filterMap_nil, List.getElem?_toArray, List.getElem?_cons_zero, List.getElem?_cons_succ, Option.map_some]
      repeat (refine seqH_read (v := ?_) (by rfl) (by rfl) ?_ ?_; rotate_left; (focus (intro W hS; (try dsimp only at hS); obtain ⟨s1, s2, s3⟩ := hS; go_simp; try with_reducible rfl)); simp only [Act.put, List.setIfInBounds_toArray, List.set_cons_zero, List.set_cons_succ])
      refine seqH_eff (by rfl) (by rfl) fun K hK => ?_
      refine wp_callC 66 #[.pointer (some ⟨l.1, 0, none⟩), .int .i64 num] (by go_simp) (R := fun v w' => v = .tuple #[.string ⟨(Dsk0.read b.D num).1.toArray⟩, .int .i64 (Dsk0.read b.D num).2] ∧ Fr (fun _ => False) w3 w')
        ((rread_calls l.1 l.2 b.D num w3.drew ((HRD.out.fr (HF3.out.drew) (fun _ _ h => h) (noBytes_no w)).at_)).mono (by rintro e w' ⟨rfl, hf⟩; exact ⟨_, rfl, rfl, hf.undrew⟩)) ?_
      rintro v w4 ⟨rfl, f4⟩
      refine hK.out _ _ ⟨(f4.cb htl3 (fun h => h)).trans e6, (f4.cb hgb3 (fun h => h)).trans eb, (f4.cb hl3 (fun h => h)).trans e0⟩ ?_
      simp only [Act.put, List.setIfInBounds_toArray, List.set_cons_zero, List.set_cons_succ]
      repeat (refine seqH_read (v := ?_) (by rfl) (by rfl) ?_ ?_; rotate_left; (focus (intro W hS; (try dsimp only at hS); obtain ⟨s1, s2, s3⟩ := hS; go_simp; try with_reducible rfl)); simp only [Act.put, List.setIfInBounds_toArray, List.set_cons_zero, List.set_cons_succ])
      refine seqH_eff (by rfl) (by rfl) fun K hK => ?_
      unfold Oper.wp
      go_simp
      refine hK.out _ _ ⟨(f4.cb htl3 (fun h => h)).trans e6, (f4.cb hgb3 (fun h => h)).trans eb, (f4.cb hl3 (fun h => h)).trans e0⟩ ?_
      refine seqH_eff (by rfl) (by rfl) fun K hK => ?_
      unfold Oper.wp
      go_simp
      refine hK.out _ _ ⟨(f4.cb htl3 (fun h => h)).trans e6, (f4.cb hgb3 (fun h => h)).trans eb, (f4.cb hl3 (fun h => h)).trans e0⟩ ?_
      refine seqH_nil ?_
      have HF4 := Lib.hid (HF3.out.trans f4)
      clear hK f4
      go_wp2_with fail
      go_ret2
      exact ⟨rfl, HF4.out⟩
    · have hpk := HPK.out
      rw [if_neg hs1] at hpk
      rw [hpk]
      clear hpk HPK
      go_enter Try.func20, Try.ntmps20
      go_wp2_with (first
        | (refine im_box rfl 25 _ rfl rfl ?_; intro w1 b1 f1 z1; have Z1 := Lib.hid z1; clear z1; obtain ⟨p0, p1, p2⟩ := plc_cells (p := ⟨(k : Int), area, idx⟩) b1; have hl1 := lt_of_blk b1; clear b1))
      refine (HNUM.out w1 f1).mono ?_; rintro e w2 ⟨rfl, f2⟩
      have f12 := f1.trans f2
      have q0 := (f2.cb hl1 (fun h => h)).trans p0
      have d6 := (f12.cb htl (fun h => h)).trans c6
      have d7 := (f12.cb htl (fun h => h)).trans c7
      have db := (f12.cb hgb (fun h => h)).trans cb
      have dsx := (f12.cb hgs (fun h => h)).trans cs
      have HF := Lib.hid f12
      have hne : (st != 1) = true := by simpa using hs1
      clear p0 p1 p2 c6 c7 cb cs f1 f2 f12
      go_wp2_with fail
      go_quiet (fail)
      go_wp2_with fail
      go_ret2
      exact ⟨rfl, HF.out.drewN _⟩
  · have hpk : Shf0.peek S p = ([], false) := by unfold Shf0.peek; rw [if_neg fun h => ht h.1]
    have hnr : numR S p = 0 := by unfold numR; rw [if_neg ht]
    rw [hnr, decide_eq_false ht] at hnum
    rw [hpk]
    obtain ⟨ds, im, bv, sv, iv, h⟩ := h0
    have HNUM := Lib.hid hnum
    clear hnum hok ht h hpk hnr
    unfold placeV at HNUM ⊢
    go_enter Try.func20, Try.ntmps20
    go_wp2_with (first
      | (refine im_box rfl 25 _ rfl rfl ?_; intro w1 b1 f1 z1; have Z1 := Lib.hid z1; clear z1; obtain ⟨p0, p1, p2⟩ := plc_cells (p := p) b1; have hl1 := lt_of_blk b1; clear b1))
    refine (HNUM.out w1 f1).mono ?_; rintro e w2 ⟨rfl, f2⟩
    have q0 := (f2.cb hl1 (fun h => h)).trans p0
    clear p0 p1 p2
    go_wp2_with fail
    go_quiet (fail)
    go_wp2_with fail
    go_ret2
    exact ⟨rfl, (f1.trans f2).drewN _⟩
end
end Go.Proofs.Ytmbkmfpnjpkakaa
