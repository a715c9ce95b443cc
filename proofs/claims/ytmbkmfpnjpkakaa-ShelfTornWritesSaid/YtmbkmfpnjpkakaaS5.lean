/- The program's shelf: number. -/
import Derived.Test.YtmbkmfpnjpkakaaS4
namespace Go.Proofs.Ytmbkmfpnjpkakaa
open Go.RowKit Go.Im Go.Dsk0

theorem ShelfAt.ok {w : World} {O : Nat → Prop} {s : Nat} {S : Shf0.Shelf} (h : ShelfAt w O s S) : Shf0.Ok S := by
  obtain ⟨bs, im, bv, iv, h⟩ := h; exact h.ok
theorem ShelfAt.head {w : World} {O : Nat → Prop} {s : Nat} {S : Shf0.Shelf} (h : ShelfAt w O s S) : ∃ bv iv, w.heap[s]? = some (.cells (shelfC S bv iv) 104 (0, 0)) := by
  obtain ⟨bs, im, bv, iv, h⟩ := h; exact ⟨bv, iv, h.head⟩
theorem plc_cells {w : World} {b : Nat} {p : Shf0.Place} {t : TypeId} {fr : Nat × Nat} (h : w.heap[b]? = some (.cells #[.int .i64 p.disk, .int .i64 p.area, .int .i64 p.index] t fr)) : w.cell? ⟨b, 0, none⟩ = some (.int .i64 p.disk) ∧ w.cell? ⟨b, 1, none⟩ = some (.int .i64 p.area) ∧ w.cell? ⟨b, 2, none⟩ = some (.int .i64 p.index) :=
  ⟨cell_of_blk h, cell_of_blk h, cell_of_blk h⟩

theorem number_no {S : Shf0.Shelf} {p : Shf0.Place} (h : ¬ Shf0.there S p) : Shf0.number S p = -1 := by unfold Shf0.number; rw [if_neg h]

set_option maxRecDepth 100000 in
set_option maxHeartbeats 2000000 in
theorem number_calls {O : Nat → Prop} {s : Nat} {S : Shf0.Shelf} (p : Shf0.Place) (w : World) (h : ShelfAt w O s S) : Calls Try.prog 93 #[.pointer (some ⟨s, 0, none⟩), placeV p] w fun e w' => e = .returned (.int .i64 (Shf0.number S p)) ∧ Fr (fun _ => False) w w' := by
  obtain ⟨-, -, h3, h4, h5, h6, h7, h8⟩ := valid_bd h.ok.cfg
  obtain ⟨bv, iv, hh⟩ := h.head
  have HH := Lib.hid hh; clear hh
  obtain ⟨st, hst⟩ : ∃ st, st = Shf0.state S p.disk := ⟨_, rfl⟩
  obtain ⟨num, hnum⟩ : ∃ n, n = Shf0.number S p := ⟨_, rfl⟩
  have hth : Shf0.there S p ↔ st ≠ 0 ∧ 1 ≤ p.area ∧ p.area ≤ 4 ∧ 0 ≤ p.index ∧ p.index < ((Shf0.sizes S.cfg)[(p.area - 1).toNat]?).getD 0 := by rw [hst]; rfl
  have hyes : Shf0.there S p → num = Shf0.offset S.cfg p.area + p.index := fun ht => by rw [hnum]; unfold Shf0.number; rw [if_pos ht]
  have hno : ¬ Shf0.there S p → num = -1 := fun ht => by rw [hnum]; exact number_no ht
  have H := Lib.hid h; clear h
  obtain ⟨c, hc⟩ : ∃ c, c = S.cfg := ⟨_, rfl⟩
  rw [← hnum]
  rw [← hc] at h3 h4 h5 h6 h7 h8 hth hyes
  have hsc : shelfC S bv iv = #[.int .i64 c.disks, .int .i64 c.racks, .int .i64 c.rows, .int .i64 c.spare, .int .i64 c.log, .int .i64 c.image, bv, iv, .bool S.off, .bool S.fused, .int .i64 S.left] := by unfold shelfC; rw [hc]
  rw [hsc] at HH
  clear hsc hc hnum
  have HST := Lib.hid hst; clear hst
  have HY := Lib.hid hyes; clear hyes
  have HN := Lib.hid hno; clear hno
  have HT := Lib.hid hth; clear hth
  obtain ⟨d, area, idx⟩ := p
  obtain ⟨n0, n1, n2, n3, n4, n5⟩ := c
  simp only at h3 h4 h5 h6 h7 h8 HST HT HY HH
  unfold placeV
  simp only
  have hslt := lt_of_blk HH.out
  have hsz : ∀ W, Calls Try.prog 98 #[.agg #[.int .i64 n0, .int .i64 n1, .int .i64 n2, .int .i64 n3, .int .i64 n4, .int .i64 n5]] W fun e w' => e = .returned (.agg #[.int .i64 n4, .int .i64 n5, .int .i64 n5, .int .i64 n2]) ∧ Fr (fun _ => False) W w' := fun W => sizes_calls ⟨n0, n1, n2, n3, n4, n5⟩ W
  have HS := Lib.hid hsz; clear hsz
  by_cases hs0 : st = 0
  · have hz : num = -1 := HN.out (fun ht => (HT.out.1 ht).1 hs0)
    have HZ := Lib.hid hz; clear hz
    have hb : (st == 0) = true := by simp [hs0]
    clear hs0
    go_enter Try.func93, Try.ntmps93
    go_wp2_with (first
      | (refine im_box rfl 25 _ rfl rfl ?_; intro w1 b1 f1 z1; have Z1 := Lib.hid z1; clear z1; obtain ⟨p0, p1, p2⟩ := plc_cells (p := ⟨d, area, idx⟩) b1; have hl1 := lt_of_blk b1; clear b1))
    refine (state_calls (H.out.keep f1) d).mono ?_; rintro e w2 ⟨rfl, rfl⟩
    rw [← HST.out]
    go_wp2_with fail
    go_ret
    exact ⟨by rw [HZ.out]; rfl, f1⟩
  have hb : (st == 0) = false := by simp [hs0]
  by_cases ha1 : area < 1
  · have hz : num = -1 := HN.out (fun ht => by have := (HT.out.1 ht).2.1; omega)
    have HZ := Lib.hid hz; clear hz
    clear hs0
    go_enter Try.func93, Try.ntmps93
    go_wp2_with (first
      | (refine im_box rfl 25 _ rfl rfl ?_; intro w1 b1 f1 z1; have Z1 := Lib.hid z1; clear z1; obtain ⟨p0, p1, p2⟩ := plc_cells (p := ⟨d, area, idx⟩) b1; have hl1 := lt_of_blk b1; clear b1))
    refine (state_calls (H.out.keep f1) d).mono ?_; rintro e w2 ⟨rfl, rfl⟩
    rw [← HST.out]
    go_wp2_with fail
    go_ret
    exact ⟨by rw [HZ.out]; rfl, f1⟩
  by_cases ha4 : 4 < area
  · have hz : num = -1 := HN.out (fun ht => by have := (HT.out.1 ht).2.2.1; omega)
    have HZ := Lib.hid hz; clear hz
    clear hs0
    go_enter Try.func93, Try.ntmps93
    go_wp2_with (first
      | (refine im_box rfl 25 _ rfl rfl ?_; intro w1 b1 f1 z1; have Z1 := Lib.hid z1; clear z1; obtain ⟨p0, p1, p2⟩ := plc_cells (p := ⟨d, area, idx⟩) b1; have hl1 := lt_of_blk b1; clear b1))
    refine (state_calls (H.out.keep f1) d).mono ?_; rintro e w2 ⟨rfl, rfl⟩
    rw [← HST.out]
    go_wp2_with fail
    go_ret
    exact ⟨by rw [HZ.out]; rfl, f1⟩
  obtain ⟨a, rfl⟩ : ∃ a : Nat, area = (a : Int) + 1 := ⟨(area - 1).toNat, by omega⟩
  have ha3 : a ≤ 3 := by omega
  obtain ⟨lim, hlim⟩ : ∃ lim, lim = ((Shf0.sizes ⟨n0, n1, n2, n3, n4, n5⟩)[a]?).getD 0 := ⟨_, rfl⟩
  have hth2 : Shf0.there S ⟨d, (a : Int) + 1, idx⟩ ↔ 0 ≤ idx ∧ idx < lim := by
    rw [HT.out, hlim, show (((a : Int) + 1 - 1).toNat) = a by omega]
    exact ⟨fun h => h.2.2.2, fun h => ⟨hs0, by omega, by omega, h⟩⟩
  have HT2 := Lib.hid hth2; clear hth2 HT
  have hlb : lim ≤ 65536 := by
    rw [hlim]
    have : a = 0 ∨ a = 1 ∨ a = 2 ∨ a = 3 := by omega
    rcases this with rfl | rfl | rfl | rfl <;> simp [Shf0.sizes] <;> omega
  have hcl : ∀ (W : World) (b : Nat), W.heap[b]? = some (.cells (sizA ⟨n0, n1, n2, n3, n4, n5⟩) 155 (0, 0)) → W.cell? ⟨b, a, none⟩ = some (.int .i64 lim) := fun W b hb => by
    rw [cell_of_blk hb, hlim]
    have : a = 0 ∨ a = 1 ∨ a = 2 ∨ a = 3 := by omega
    rcases this with rfl | rfl | rfl | rfl <;> rfl
  have HCL := Lib.hid hcl; clear hcl
  have HLIM := Lib.hid hlim; clear hlim
  have hwr : IntKind.i64.wrap (a : Int) = (a : Int) := IntWalk.i64_in _ (by omega)
  have HWR := Lib.hid hwr; clear hwr
  have b1' : ¬ ((a : Int) + 1 < 1) := by omega
  have b4' : ¬ (4 < (a : Int) + 1) := by omega
  clear hs0 ha1 ha4
  go_enter Try.func93, Try.ntmps93
  go_wp2_with (first
    | (refine im_box rfl 25 _ rfl rfl ?_; intro w1 b1 f1 z1; have Z1 := Lib.hid z1; clear z1; obtain ⟨p0, p1, p2⟩ := plc_cells (p := ⟨d, (a : Int) + 1, idx⟩) b1; have hl1 := lt_of_blk b1; clear b1))
  refine (state_calls (H.out.keep f1) d).mono ?_; rintro e w2 ⟨rfl, rfl⟩
  rw [← HST.out]
  have e0 : w1.cell? ⟨s, 0, none⟩ = some (.int .i64 n0) := (f1.cb hslt (fun h => h)).trans (cell_of_blk HH.out)
  have e1 : w1.cell? ⟨s, 1, none⟩ = some (.int .i64 n1) := (f1.cb hslt (fun h => h)).trans (cell_of_blk HH.out)
  have e2 : w1.cell? ⟨s, 2, none⟩ = some (.int .i64 n2) := (f1.cb hslt (fun h => h)).trans (cell_of_blk HH.out)
  have e3 : w1.cell? ⟨s, 3, none⟩ = some (.int .i64 n3) := (f1.cb hslt (fun h => h)).trans (cell_of_blk HH.out)
  have e4 : w1.cell? ⟨s, 4, none⟩ = some (.int .i64 n4) := (f1.cb hslt (fun h => h)).trans (cell_of_blk HH.out)
  have e5 : w1.cell? ⟨s, 5, none⟩ = some (.int .i64 n5) := (f1.cb hslt (fun h => h)).trans (cell_of_blk HH.out)
  go_wp2_with fail
  refine (HS.out _).mono ?_; rintro e w2 ⟨rfl, f2⟩
  clear e0 e1 e2 e3 e4 e5
  go_wp2_with (first
    | (refine im_alloc_row rfl 155 rfl (zero155 _) ?_; intro w3 b3 f3 z3; have B3 := Lib.hid b3; clear b3; have Z3 := Lib.hid z3; clear z3)
    | (refine im_store_row rfl 155 _ _ rfl (vs := sizA ⟨n0, n1, n2, n3, n4, n5⟩) rfl rfl B3.out rfl info155 (sizA_one _) ?_; intro w4 b4 f4 z4; have B4 := Lib.hid b4; clear b4; have Z4 := Lib.hid z4; clear z4))
  have hz1 := Z1.out
  have hz3 := Z3.out
  have hz4 := Z4.out
  have hs2 := f2.size
  have ff : Fr (fun _ => False) w w4 := (((f1.trans f2).trans f3).trans' f4 (fun _ _ h => h) (fun i hi h => by omega))
  have g1 : Fr (fun q => w2.heap.size ≤ q) w1 w4 := ((f2.trans f3).no).trans (f4.mono fun i hi h => by omega)
  have hl := HCL.out w4 _ B4.out
  have p1' := (g1.cb hl1 (by omega)).trans p1
  have p2' := (g1.cb hl1 (by omega)).trans p2
  have hlt4 := lt_of_blk B4.out
  clear p0 p1 p2 f1 f2 f3 f4 g1 hz1 hz3 hz4
  obtain ⟨blk, hblk⟩ : ∃ blk, blk = w2.heap.size := ⟨_, rfl⟩
  rw [← hblk] at B4 hl hlt4 ⊢
  clear hblk Z3 B3
  have hwr := HWR.out
  have ha0 : (0 : Int) ≤ a := by omega
  have ha4 : (a : Int) < 4 := by omega
  by_cases hi0 : idx < 0
  · have hz : num = -1 := HN.out (fun ht => by have := HT2.out.1 ht; omega)
    have HZ := Lib.hid hz; clear hz
    have hd : decide (idx < 0) = true := by simpa using hi0
    refine wp_region_seq (fun W => W.cell? ⟨w.heap.size, 1, none⟩ = some (.int .i64 ((a : Int) + 1)) ∧ W.cell? ⟨w.heap.size, 2, none⟩ = some (.int .i64 idx) ∧ W.cell? ⟨blk, a, none⟩ = some (.int .i64 lim)) [0, 1, 2, 3, 4, 5, 6, 7, 8, 9, 10, 11, 12] [] (by kernel_rfl) (by kernel_rfl) (by kernel_rfl) ⟨p1', p2', hl⟩ ?_
    simp only [pickOps, List.filterMap_cons, List.filterMap_nil, List.getElem?_toArray, List.getElem?_cons_zero, List.getElem?_cons_succ, Option.map_some]
    repeat (first | (refine seqH_read (v := ?_) (by rfl) (by rfl) ?_ ?_; rotate_left; (focus (intro W hS; (try dsimp only at hS); obtain ⟨s1, s2, s3⟩ := hS; go_simp; try with_reducible rfl)); simp only [Act.put, List.setIfInBounds_toArray, List.set_cons_zero, List.set_cons_succ]) | (refine seqH_skip (by rfl) (by rfl) ?_; simp only [Act.put, List.setIfInBounds_toArray, List.set_cons_zero, List.set_cons_succ]))
    refine seqH_nil ?_
    go_wp2_with fail
    go_ret
    exact ⟨by rw [HZ.out]; rfl, ff.drew⟩
  have hd : decide (idx < 0) = false := by simpa using hi0
  by_cases hi1 : lim ≤ idx
  · have hz : num = -1 := HN.out (fun ht => by have := HT2.out.1 ht; omega)
    have HZ := Lib.hid hz; clear hz
    have hd2 : decide (lim ≤ idx) = true := by simpa using hi1
    refine wp_region_seq (fun W => W.cell? ⟨w.heap.size, 1, none⟩ = some (.int .i64 ((a : Int) + 1)) ∧ W.cell? ⟨w.heap.size, 2, none⟩ = some (.int .i64 idx) ∧ W.cell? ⟨blk, a, none⟩ = some (.int .i64 lim)) [0, 1, 2, 3, 4, 5, 6, 7, 8, 9, 10, 11, 12] [] (by kernel_rfl) (by kernel_rfl) (by kernel_rfl) ⟨p1', p2', hl⟩ ?_
    simp only [pickOps, List.filterMap_cons, List.filterMap_nil, List.getElem?_toArray, List.getElem?_cons_zero, List.getElem?_cons_succ, Option.map_some]
    repeat (first | (refine seqH_read (v := ?_) (by rfl) (by rfl) ?_ ?_; rotate_left; (focus (intro W hS; (try dsimp only at hS); obtain ⟨s1, s2, s3⟩ := hS; go_simp; try with_reducible rfl)); simp only [Act.put, List.setIfInBounds_toArray, List.set_cons_zero, List.set_cons_succ]) | (refine seqH_skip (by rfl) (by rfl) ?_; simp only [Act.put, List.setIfInBounds_toArray, List.set_cons_zero, List.set_cons_succ]))
    refine seqH_nil ?_
    go_wp2_with fail
    go_ret
    exact ⟨by rw [HZ.out]; rfl, ff.drew⟩
  have hd2 : decide (lim ≤ idx) = false := by simpa using hi1
  have hz : num = Shf0.offset ⟨n0, n1, n2, n3, n4, n5⟩ ((a : Int) + 1) + idx := HY.out (HT2.out.2 ⟨by omega, by omega⟩)
  have HZ := Lib.hid hz; clear hz
  · refine wp_region_seq (fun W => W.cell? ⟨w.heap.size, 1, none⟩ = some (.int .i64 ((a : Int) + 1)) ∧ W.cell? ⟨w.heap.size, 2, none⟩ = some (.int .i64 idx) ∧ W.cell? ⟨blk, a, none⟩ = some (.int .i64 lim)) [0, 1, 2, 3, 4, 5, 6, 7, 8, 9, 10, 11, 12] [] (by kernel_rfl) (by kernel_rfl) (by kernel_rfl) ⟨p1', p2', hl⟩ ?_
    simp only [pickOps, List.filterMap_cons, List.filterMap_nil, List.getElem?_toArray, List.getElem?_cons_zero, List.getElem?_cons_succ, Option.map_some]
    repeat (first | (refine seqH_read (v := ?_) (by rfl) (by rfl) ?_ ?_; rotate_left; (focus (intro W hS; (try dsimp only at hS); obtain ⟨s1, s2, s3⟩ := hS; go_simp; try with_reducible rfl)); simp only [Act.put, List.setIfInBounds_toArray, List.set_cons_zero, List.set_cons_succ]) | (refine seqH_skip (by rfl) (by rfl) ?_; simp only [Act.put, List.setIfInBounds_toArray, List.set_cons_zero, List.set_cons_succ]))
    refine seqH_nil ?_
    have hsl : ∀ W, (Instr.sliceAt 155 (.pointer (some ⟨blk, 0, none⟩)) none (some (.int .i64 (a : Int))) none).run Try.prog W = .ok (.slice (some ⟨blk, 0, none⟩) a 4) W := by
      have : a = 0 ∨ a = 1 ∨ a = 2 ∨ a = 3 := by omega
      rcases this with rfl | rfl | rfl | rfl <;> (intro W; kernel_rfl)
    go_wp2_with fail
    obtain ⟨q0, q1, q2, q3⟩ := sizA_cells B4.out
    clear p1' p2' hl B4 HCL hsl
    have hlim0 : lim ≤ 65536 := hlb
    have hi2 : idx < 65536 := by omega
    have hi3 : 0 ≤ idx := by omega
    clear hi0 hi1 hd hd2 hlb hlim0
    go_loopg [6, 49] a (fun m t i wr => w4.drew = wr ∧ ((m = a ∧ i = .int .i64 0 ∧ t = .int .i64 idx) ∨ (m + 1 = a ∧ i = .int .i64 1 ∧ t = .int .i64 (idx + n4)) ∨ (m + 2 = a ∧ i = .int .i64 2 ∧ t = .int .i64 (idx + n4 + n5)) ∨ (m + 3 = a ∧ i = .int .i64 3 ∧ t = .int .i64 (idx + n4 + n5 + n5))))
    case atStart => exact ⟨rfl, .inl ⟨rfl, rfl, rfl⟩⟩
    case round =>
      obtain ⟨rfl, ⟨hm, rfl, rfl⟩ | ⟨hm, rfl, rfl⟩ | ⟨hm, rfl, rfl⟩ | ⟨hm, rfl, rfl⟩⟩ := hrel
      · by_cases hk : 0 < a
        · have hk' : (0 : Int) < a := by omega
          have HM := Lib.hid hm; clear hm
          go_wp2_with fail
          have hm := HM.out
          go_roundg (gk - 1)
          case measure => omega
          case rel => exact ⟨rfl, .inr (.inl ⟨by omega, rfl, rfl⟩)⟩
        · obtain rfl : a = 0 := by omega
          have hz : num = idx := by rw [HZ.out]; simp [Shf0.offset, Shf0.sizes] <;> omega
          have HZ2 := Lib.hid hz; clear hz hm
          go_wp2_with fail
          go_ret
          exact ⟨by rw [HZ2.out]; rfl, ff.drew⟩
      · by_cases hk : 1 < a
        · have hk' : (1 : Int) < a := by omega
          have HM := Lib.hid hm; clear hm
          go_wp2_with fail
          have hm := HM.out
          go_roundg (gk - 1)
          case measure => omega
          case rel => exact ⟨rfl, .inr (.inr (.inl ⟨by omega, rfl, rfl⟩))⟩
        · obtain rfl : a = 1 := by omega
          have hz : num = idx + n4 := by rw [HZ.out]; simp [Shf0.offset, Shf0.sizes] <;> omega
          have HZ2 := Lib.hid hz; clear hz hm
          go_wp2_with fail
          go_ret
          exact ⟨by rw [HZ2.out]; rfl, ff.drew⟩
      · by_cases hk : 2 < a
        · have hk' : (2 : Int) < a := by omega
          have HM := Lib.hid hm; clear hm
          go_wp2_with fail
          have hm := HM.out
          go_roundg (gk - 1)
          case measure => omega
          case rel => exact ⟨rfl, .inr (.inr (.inr ⟨by omega, rfl, rfl⟩))⟩
        · obtain rfl : a = 2 := by omega
          have hz : num = idx + n4 + n5 := by rw [HZ.out]; simp [Shf0.offset, Shf0.sizes] <;> omega
          have HZ2 := Lib.hid hz; clear hz hm
          go_wp2_with fail
          go_ret
          exact ⟨by rw [HZ2.out]; rfl, ff.drew⟩
      · obtain rfl : a = 3 := by omega
        have hz : num = idx + n4 + n5 + n5 := by rw [HZ.out]; simp [Shf0.offset, Shf0.sizes] <;> omega
        have HZ2 := Lib.hid hz; clear hz hm
        go_wp2_with fail
        go_ret
        exact ⟨by rw [HZ2.out]; rfl, ff.drew⟩
end Go.Proofs.Ytmbkmfpnjpkakaa
