/- The reference shelf: Config, Number, Peek. -/
import Derived.Test.YtmbkmfpnjpkakaaZ0
namespace Go.Proofs.Ytmbkmfpnjpkakaa
open Go.RowKit Go.Im Go.Dsk0

section
variable {w : World} {R : Nat → Prop} {t : Nat} {S : Shf0.Shelf}

theorem rsh_cells {bv sv iv : Value} {ty : TypeId} {fr : Nat × Nat} (h : w.heap[t]? = some (.cells (rshC S bv sv iv) ty fr)) : w.cell? ⟨t, 0, none⟩ = some (.int .i64 S.cfg.disks) ∧ w.cell? ⟨t, 1, none⟩ = some (.int .i64 S.cfg.racks) ∧ w.cell? ⟨t, 2, none⟩ = some (.int .i64 S.cfg.rows) ∧ w.cell? ⟨t, 3, none⟩ = some (.int .i64 S.cfg.spare) ∧ w.cell? ⟨t, 4, none⟩ = some (.int .i64 S.cfg.log) ∧ w.cell? ⟨t, 5, none⟩ = some (.int .i64 S.cfg.image) :=
  ⟨cell_of_blk h, cell_of_blk h, cell_of_blk h, cell_of_blk h, cell_of_blk h, cell_of_blk h⟩

theorem rconfig_calls (h : RShelfAt w R t S) : Calls Try.prog 67 #[.pointer (some ⟨t, 0, none⟩)] w fun e w' => e = .returned (cfgV S.cfg) ∧ Fr (fun _ => False) w w' := by
  obtain ⟨ds, im, bv, sv, iv, h⟩ := h
  obtain ⟨c0, c1, c2, c3, c4, c5⟩ := rsh_cells h.head
  have hs := lt_of_blk h.head
  clear h
  go_enter Try.func67, Try.ntmps67
  go_wp2_with (first
    | (refine im_alloc_row rfl 23 rfl (zero23 _) ?_; intro w2 b2 f2 z2; have B2 := Lib.hid b2; clear b2; have Z2 := Lib.hid z2; clear z2; have d0 := (f2.cb hs (fun h => h)).trans c0; have d1 := (f2.cb hs (fun h => h)).trans c1; have d2 := (f2.cb hs (fun h => h)).trans c2; have d3 := (f2.cb hs (fun h => h)).trans c3; have d4 := (f2.cb hs (fun h => h)).trans c4; have d5 := (f2.cb hs (fun h => h)).trans c5)
    | (refine im_store_row rfl 23 _ _ rfl (vs := cfgA S.cfg) rfl rfl B2.out rfl info23 (cfgA_one _) ?_; intro w3 b3 f3 z3; obtain ⟨q0, q1, q2, q3, q4, q5⟩ := cfgA_cells b3; clear b3; have Z3 := Lib.hid z3; clear z3))
  refine bodyPost_ret (v := cfgV S.cfg) (by simp [results, Try.results67, go_sem, q0, q1, q2, q3, q4, q5, cfgV]) rfl ⟨rfl, ?_⟩
  exact f2.trans' f3 (fun _ _ h => h) (fun i hi h => by omega)

/-- What the reference's Number answers. -/
def numR (S : Shf0.Shelf) (p : Shf0.Place) : Int := if Shf0.there S p then Shf0.number S p else 0

theorem rthere {S : Shf0.Shelf} (hk : Shf0.Ok S) (p : Shf0.Place) : Shf0.there S p ↔ (0 ≤ p.disk ∧ p.disk < S.cfg.disks) ∧ 1 ≤ p.area ∧ p.area ≤ 4 ∧ 0 ≤ p.index ∧ p.index < ((Shf0.sizes S.cfg)[(p.area - 1).toNat]?).getD 0 := by
  have h1 := hk.num
  have h2 := hk.cfg.1
  constructor
  · intro h
    have := Shf0.there_disk h
    exact ⟨by omega, h.2⟩
  · rintro ⟨⟨h3, h4⟩, h5⟩
    refine ⟨?_, h5⟩
    have hl : p.disk.toNat < S.bays.length := by omega
    unfold Shf0.state
    rw [if_pos ⟨h3, by omega⟩, List.getElem?_eq_getElem hl]
    have := hk.st _ (List.getElem_mem hl)
    simp only [Option.map_some, Option.getD_some]
    omega

set_option maxRecDepth 100000 in
set_option maxHeartbeats 4000000 in
theorem rnumber_calls (p : Shf0.Place) (h : RShelfAt w R t S) : Calls Try.prog 65 #[.pointer (some ⟨t, 0, none⟩), placeV p] w fun e w' => e = .returned (.tuple #[.int .i64 (numR S p), .bool (decide (Shf0.there S p))]) ∧ Fr (fun _ => False) w w' := by
  obtain ⟨-, -, h3, h4, h5, h6, h7, h8⟩ := valid_bd h.ok.cfg
  have hth := rthere h.ok p
  have hyes : Shf0.there S p → Shf0.number S p = Shf0.offset S.cfg p.area + p.index := fun ht => by unfold Shf0.number; rw [if_pos ht]
  obtain ⟨ds, im, bv, sv, iv, h⟩ := h
  obtain ⟨c0, c1, c2, c3, c4, c5⟩ := rsh_cells h.head
  have htl := lt_of_blk h.head
  clear h
  have hno : ¬ Shf0.there S p → numR S p = 0 ∧ decide (Shf0.there S p) = false := fun ht => ⟨by unfold numR; rw [if_neg ht], decide_eq_false ht⟩
  have hye : Shf0.there S p → numR S p = Shf0.offset S.cfg p.area + p.index ∧ decide (Shf0.there S p) = true := fun ht => ⟨by unfold numR; rw [if_pos ht, hyes ht], decide_eq_true ht⟩
  obtain ⟨num, hnum⟩ : ∃ n, n = numR S p := ⟨_, rfl⟩
  obtain ⟨ok, hok⟩ : ∃ b, b = decide (Shf0.there S p) := ⟨_, rfl⟩
  rw [← hnum, ← hok] at hno hye ⊢
  clear hyes hnum hok
  obtain ⟨c, hc⟩ : ∃ c, c = S.cfg := ⟨_, rfl⟩
  rw [← hc] at h3 h4 h5 h6 h7 h8 hth hye c0 c1 c2 c3 c4 c5
  obtain ⟨T, hT⟩ : ∃ T, T = Shf0.there S p := ⟨_, rfl⟩
  rw [← hT] at hth hno hye
  clear hT hc
  obtain ⟨d, area, idx⟩ := p
  obtain ⟨n0, n1, n2, n3, n4, n5⟩ := c
  unfold placeV
  simp only at h3 h4 h5 h6 h7 h8 hth hye c0 c1 c2 c3 c4 c5 ⊢
  have HN := Lib.hid hno
  have HY := Lib.hid hye
  have HT := Lib.hid hth
  clear hno hye hth
  by_cases k0 : d < 0
  · have HZ := Lib.hid (HN.out (fun ht => by have := (HT.out.1 ht).1; omega))
    have g0 : decide (d < 0) = true := decide_eq_true k0
    go_enter Try.func65, Try.ntmps65
    go_wp2_with (first
      | (refine im_box rfl 25 _ rfl rfl ?_; intro w1 b1 f1 z1; have Z1 := Lib.hid z1; clear z1; obtain ⟨p0, p1, p2⟩ := plc_cells (p := ⟨d, area, idx⟩) b1; have hl1 := lt_of_blk b1; clear b1; have s0 := (f1.cb htl (fun h => h)).trans c0; have s2 := (f1.cb htl (fun h => h)).trans c2; have s4 := (f1.cb htl (fun h => h)).trans c4; have s5 := (f1.cb htl (fun h => h)).trans c5))
    clear c0 c1 c2 c3 c4 c5
    have hS : (fun W : World => W.cell? ⟨t, 2, none⟩ = some (.int .i64 n2) ∧ W.cell? ⟨t, 4, none⟩ = some (.int .i64 n4) ∧ W.cell? ⟨t, 5, none⟩ = some (.int .i64 n5)) w1.drew := ⟨s2, s4, s5⟩
    refine wp_region_seqF (fun W => W.cell? ⟨t, 2, none⟩ = some (.int .i64 n2) ∧ W.cell? ⟨t, 4, none⟩ = some (.int .i64 n4) ∧ W.cell? ⟨t, 5, none⟩ = some (.int .i64 n5)) [0, 1, 2, 3, 4, 5, 6, 7, 8, 9, 10, 11, 12, 13, 14, 15, 16, 17, 18, 19, 20, 21] [20, 21] 21 (by kernel_rfl) (by kernel_rfl) (by kernel_rfl) ?_
    simp only [pickOps, List.filterMap_cons, List.filterMap_nil, List.getElem?_toArray, List.getElem?_cons_zero, List.getElem?_cons_succ, Option.map_some]
    repeat (refine seqF_read (v := ?_) (by rfl) (by rfl) hS ?_ ?_; rotate_left; (focus (intro W hS; (try dsimp only at hS); obtain ⟨s1, s2, s3⟩ := hS; go_simp; try with_reducible rfl)); simp only [Act.put, List.setIfInBounds_toArray, List.set_cons_zero, List.set_cons_succ])
    refine seqF_eff (by rfl) (by rfl) fun K hK => ?_
    unfold Oper.wp
    go_simp
    obtain ⟨w2, hw2⟩ : ∃ w2, w2 = (w1.alloc (.cells #[.int .i64 n4, .int .i64 n5, .int .i64 n5, .int .i64 n2] 3)).drew := ⟨_, rfl⟩
    obtain ⟨blk, hblk⟩ : ∃ blk, blk = w1.heap.size := ⟨_, rfl⟩
    have b2 : w2.heap[blk]? = some (.cells #[.int .i64 n4, .int .i64 n5, .int .i64 n5, .int .i64 n2] 3 (0, 0)) := by rw [hw2, hblk]; exact heap_alloc_new w1 _
    have f2 : Fr (fun _ => False) w1 w2 := by rw [hw2]; exact ((Fr.refl _ _).alloc _).drew
    try rw [← hw2]
    try rw [← hblk]
    clear hw2 hblk
    have HB2 := Lib.hid b2; clear b2
    have ff := f1.trans f2
    have q0 := (f2.cb hl1 (fun h => h)).trans p0
    have q1 := (f2.cb hl1 (fun h => h)).trans p1
    have q2 := (f2.cb hl1 (fun h => h)).trans p2
    have r0 := (f2.cb (Nat.lt_of_lt_of_le htl f1.size) (fun h => h)).trans s0
    refine hK.out _ _ (fun _ => ⟨(f2.cb (Nat.lt_of_lt_of_le htl f1.size) (fun h => h)).trans s2, (f2.cb (Nat.lt_of_lt_of_le htl f1.size) (fun h => h)).trans s4, (f2.cb (Nat.lt_of_lt_of_le htl f1.size) (fun h => h)).trans s5⟩) ?_
    try simp only [Act.put, List.setIfInBounds_toArray, List.set_cons_zero, List.set_cons_succ]
    refine seqF_eff (by rfl) (by rfl) fun K hK => ?_
    unfold Oper.wp
    go_simp
    refine hK.out _ _ (fun h => absurd rfl h) ?_
    refine seqF_nil ?_
    clear hK p0 p1 p2 s0 s2 s4 s5 f1 f2 hS
    go_wp2_with fail
    go_quiet (fail)
    go_wp2_with fail
    obtain ⟨rfl, rfl⟩ := HZ.out
    go_ret2
    exact ⟨rfl, ff.drewN _⟩
  have g0 : decide (d < 0) = false := decide_eq_false k0
  by_cases k1 : n0 ≤ d
  · have HZ := Lib.hid (HN.out (fun ht => by have := (HT.out.1 ht).1; omega))
    have g1 : decide (n0 ≤ d) = true := decide_eq_true k1
    go_enter Try.func65, Try.ntmps65
    go_wp2_with (first
      | (refine im_box rfl 25 _ rfl rfl ?_; intro w1 b1 f1 z1; have Z1 := Lib.hid z1; clear z1; obtain ⟨p0, p1, p2⟩ := plc_cells (p := ⟨d, area, idx⟩) b1; have hl1 := lt_of_blk b1; clear b1; have s0 := (f1.cb htl (fun h => h)).trans c0; have s2 := (f1.cb htl (fun h => h)).trans c2; have s4 := (f1.cb htl (fun h => h)).trans c4; have s5 := (f1.cb htl (fun h => h)).trans c5))
    clear c0 c1 c2 c3 c4 c5
    have hS : (fun W : World => W.cell? ⟨t, 2, none⟩ = some (.int .i64 n2) ∧ W.cell? ⟨t, 4, none⟩ = some (.int .i64 n4) ∧ W.cell? ⟨t, 5, none⟩ = some (.int .i64 n5)) w1.drew := ⟨s2, s4, s5⟩
    refine wp_region_seqF (fun W => W.cell? ⟨t, 2, none⟩ = some (.int .i64 n2) ∧ W.cell? ⟨t, 4, none⟩ = some (.int .i64 n4) ∧ W.cell? ⟨t, 5, none⟩ = some (.int .i64 n5)) [0, 1, 2, 3, 4, 5, 6, 7, 8, 9, 10, 11, 12, 13, 14, 15, 16, 17, 18, 19, 20, 21] [20, 21] 21 (by kernel_rfl) (by kernel_rfl) (by kernel_rfl) ?_
    simp only [pickOps, List.filterMap_cons, List.filterMap_nil, List.getElem?_toArray, List.getElem?_cons_zero, List.getElem?_cons_succ, Option.map_some]
    repeat (refine seqF_read (v := ?_) (by rfl) (by rfl) hS ?_ ?_; rotate_left; (focus (intro W hS; (try dsimp only at hS); obtain ⟨s1, s2, s3⟩ := hS; go_simp; try with_reducible rfl)); simp only [Act.put, List.setIfInBounds_toArray, List.set_cons_zero, List.set_cons_succ])
    refine seqF_eff (by rfl) (by rfl) fun K hK => ?_
    unfold Oper.wp
    go_simp
    obtain ⟨w2, hw2⟩ : ∃ w2, w2 = (w1.alloc (.cells #[.int .i64 n4, .int .i64 n5, .int .i64 n5, .int .i64 n2] 3)).drew := ⟨_, rfl⟩
    obtain ⟨blk, hblk⟩ : ∃ blk, blk = w1.heap.size := ⟨_, rfl⟩
    have b2 : w2.heap[blk]? = some (.cells #[.int .i64 n4, .int .i64 n5, .int .i64 n5, .int .i64 n2] 3 (0, 0)) := by rw [hw2, hblk]; exact heap_alloc_new w1 _
    have f2 : Fr (fun _ => False) w1 w2 := by rw [hw2]; exact ((Fr.refl _ _).alloc _).drew
    try rw [← hw2]
    try rw [← hblk]
    clear hw2 hblk
    have HB2 := Lib.hid b2; clear b2
    have ff := f1.trans f2
    have q0 := (f2.cb hl1 (fun h => h)).trans p0
    have q1 := (f2.cb hl1 (fun h => h)).trans p1
    have q2 := (f2.cb hl1 (fun h => h)).trans p2
    have r0 := (f2.cb (Nat.lt_of_lt_of_le htl f1.size) (fun h => h)).trans s0
    refine hK.out _ _ (fun _ => ⟨(f2.cb (Nat.lt_of_lt_of_le htl f1.size) (fun h => h)).trans s2, (f2.cb (Nat.lt_of_lt_of_le htl f1.size) (fun h => h)).trans s4, (f2.cb (Nat.lt_of_lt_of_le htl f1.size) (fun h => h)).trans s5⟩) ?_
    try simp only [Act.put, List.setIfInBounds_toArray, List.set_cons_zero, List.set_cons_succ]
    refine seqF_eff (by rfl) (by rfl) fun K hK => ?_
    unfold Oper.wp
    go_simp
    refine hK.out _ _ (fun h => absurd rfl h) ?_
    refine seqF_nil ?_
    clear hK p0 p1 p2 s0 s2 s4 s5 f1 f2 hS
    go_wp2_with fail
    go_quiet (fail)
    go_wp2_with fail
    obtain ⟨rfl, rfl⟩ := HZ.out
    go_ret2
    exact ⟨rfl, ff.drewN _⟩
  have g1 : decide (n0 ≤ d) = false := decide_eq_false k1
  by_cases k2 : area < 1
  · have HZ := Lib.hid (HN.out (fun ht => by have := (HT.out.1 ht).2.1; omega))
    have g2 : decide (area < 1) = true := decide_eq_true k2
    go_enter Try.func65, Try.ntmps65
    go_wp2_with (first
      | (refine im_box rfl 25 _ rfl rfl ?_; intro w1 b1 f1 z1; have Z1 := Lib.hid z1; clear z1; obtain ⟨p0, p1, p2⟩ := plc_cells (p := ⟨d, area, idx⟩) b1; have hl1 := lt_of_blk b1; clear b1; have s0 := (f1.cb htl (fun h => h)).trans c0; have s2 := (f1.cb htl (fun h => h)).trans c2; have s4 := (f1.cb htl (fun h => h)).trans c4; have s5 := (f1.cb htl (fun h => h)).trans c5))
    clear c0 c1 c2 c3 c4 c5
    have hS : (fun W : World => W.cell? ⟨t, 2, none⟩ = some (.int .i64 n2) ∧ W.cell? ⟨t, 4, none⟩ = some (.int .i64 n4) ∧ W.cell? ⟨t, 5, none⟩ = some (.int .i64 n5)) w1.drew := ⟨s2, s4, s5⟩
    refine wp_region_seqF (fun W => W.cell? ⟨t, 2, none⟩ = some (.int .i64 n2) ∧ W.cell? ⟨t, 4, none⟩ = some (.int .i64 n4) ∧ W.cell? ⟨t, 5, none⟩ = some (.int .i64 n5)) [0, 1, 2, 3, 4, 5, 6, 7, 8, 9, 10, 11, 12, 13, 14, 15, 16, 17, 18, 19, 20, 21] [20, 21] 21 (by kernel_rfl) (by kernel_rfl) (by kernel_rfl) ?_
    simp only [pickOps, List.filterMap_cons, List.filterMap_nil, List.getElem?_toArray, List.getElem?_cons_zero, List.getElem?_cons_succ, Option.map_some]
    repeat (refine seqF_read (v := ?_) (by rfl) (by rfl) hS ?_ ?_; rotate_left; (focus (intro W hS; (try dsimp only at hS); obtain ⟨s1, s2, s3⟩ := hS; go_simp; try with_reducible rfl)); simp only [Act.put, List.setIfInBounds_toArray, List.set_cons_zero, List.set_cons_succ])
    refine seqF_eff (by rfl) (by rfl) fun K hK => ?_
    unfold Oper.wp
    go_simp
    obtain ⟨w2, hw2⟩ : ∃ w2, w2 = (w1.alloc (.cells #[.int .i64 n4, .int .i64 n5, .int .i64 n5, .int .i64 n2] 3)).drew := ⟨_, rfl⟩
    obtain ⟨blk, hblk⟩ : ∃ blk, blk = w1.heap.size := ⟨_, rfl⟩
    have b2 : w2.heap[blk]? = some (.cells #[.int .i64 n4, .int .i64 n5, .int .i64 n5, .int .i64 n2] 3 (0, 0)) := by rw [hw2, hblk]; exact heap_alloc_new w1 _
    have f2 : Fr (fun _ => False) w1 w2 := by rw [hw2]; exact ((Fr.refl _ _).alloc _).drew
    try rw [← hw2]
    try rw [← hblk]
    clear hw2 hblk
    have HB2 := Lib.hid b2; clear b2
    have ff := f1.trans f2
    have q0 := (f2.cb hl1 (fun h => h)).trans p0
    have q1 := (f2.cb hl1 (fun h => h)).trans p1
    have q2 := (f2.cb hl1 (fun h => h)).trans p2
    have r0 := (f2.cb (Nat.lt_of_lt_of_le htl f1.size) (fun h => h)).trans s0
    refine hK.out _ _ (fun _ => ⟨(f2.cb (Nat.lt_of_lt_of_le htl f1.size) (fun h => h)).trans s2, (f2.cb (Nat.lt_of_lt_of_le htl f1.size) (fun h => h)).trans s4, (f2.cb (Nat.lt_of_lt_of_le htl f1.size) (fun h => h)).trans s5⟩) ?_
    try simp only [Act.put, List.setIfInBounds_toArray, List.set_cons_zero, List.set_cons_succ]
    refine seqF_eff (by rfl) (by rfl) fun K hK => ?_
    unfold Oper.wp
    go_simp
    refine hK.out _ _ (fun h => absurd rfl h) ?_
    refine seqF_nil ?_
    clear hK p0 p1 p2 s0 s2 s4 s5 f1 f2 hS
    go_wp2_with fail
    go_quiet (fail)
    go_wp2_with fail
    obtain ⟨rfl, rfl⟩ := HZ.out
    go_ret2
    exact ⟨rfl, ff.drewN _⟩
  have g2 : decide (area < 1) = false := decide_eq_false k2
  by_cases k3 : 4 < area
  · have HZ := Lib.hid (HN.out (fun ht => by have := (HT.out.1 ht).2.2.1; omega))
    have g3 : decide (4 < area) = true := decide_eq_true k3
    go_enter Try.func65, Try.ntmps65
    go_wp2_with (first
      | (refine im_box rfl 25 _ rfl rfl ?_; intro w1 b1 f1 z1; have Z1 := Lib.hid z1; clear z1; obtain ⟨p0, p1, p2⟩ := plc_cells (p := ⟨d, area, idx⟩) b1; have hl1 := lt_of_blk b1; clear b1; have s0 := (f1.cb htl (fun h => h)).trans c0; have s2 := (f1.cb htl (fun h => h)).trans c2; have s4 := (f1.cb htl (fun h => h)).trans c4; have s5 := (f1.cb htl (fun h => h)).trans c5))
    clear c0 c1 c2 c3 c4 c5
    have hS : (fun W : World => W.cell? ⟨t, 2, none⟩ = some (.int .i64 n2) ∧ W.cell? ⟨t, 4, none⟩ = some (.int .i64 n4) ∧ W.cell? ⟨t, 5, none⟩ = some (.int .i64 n5)) w1.drew := ⟨s2, s4, s5⟩
    refine wp_region_seqF (fun W => W.cell? ⟨t, 2, none⟩ = some (.int .i64 n2) ∧ W.cell? ⟨t, 4, none⟩ = some (.int .i64 n4) ∧ W.cell? ⟨t, 5, none⟩ = some (.int .i64 n5)) [0, 1, 2, 3, 4, 5, 6, 7, 8, 9, 10, 11, 12, 13, 14, 15, 16, 17, 18, 19, 20, 21] [20, 21] 21 (by kernel_rfl) (by kernel_rfl) (by kernel_rfl) ?_
    simp only [pickOps, List.filterMap_cons, List.filterMap_nil, List.getElem?_toArray, List.getElem?_cons_zero, List.getElem?_cons_succ, Option.map_some]
    repeat (refine seqF_read (v := ?_) (by rfl) (by rfl) hS ?_ ?_; rotate_left; (focus (intro W hS; (try dsimp only at hS); obtain ⟨s1, s2, s3⟩ := hS; go_simp; try with_reducible rfl)); simp only [Act.put, List.setIfInBounds_toArray, List.set_cons_zero, List.set_cons_succ])
    refine seqF_eff (by rfl) (by rfl) fun K hK => ?_
    unfold Oper.wp
    go_simp
    obtain ⟨w2, hw2⟩ : ∃ w2, w2 = (w1.alloc (.cells #[.int .i64 n4, .int .i64 n5, .int .i64 n5, .int .i64 n2] 3)).drew := ⟨_, rfl⟩
    obtain ⟨blk, hblk⟩ : ∃ blk, blk = w1.heap.size := ⟨_, rfl⟩
    have b2 : w2.heap[blk]? = some (.cells #[.int .i64 n4, .int .i64 n5, .int .i64 n5, .int .i64 n2] 3 (0, 0)) := by rw [hw2, hblk]; exact heap_alloc_new w1 _
    have f2 : Fr (fun _ => False) w1 w2 := by rw [hw2]; exact ((Fr.refl _ _).alloc _).drew
    try rw [← hw2]
    try rw [← hblk]
    clear hw2 hblk
    have HB2 := Lib.hid b2; clear b2
    have ff := f1.trans f2
    have q0 := (f2.cb hl1 (fun h => h)).trans p0
    have q1 := (f2.cb hl1 (fun h => h)).trans p1
    have q2 := (f2.cb hl1 (fun h => h)).trans p2
    have r0 := (f2.cb (Nat.lt_of_lt_of_le htl f1.size) (fun h => h)).trans s0
    refine hK.out _ _ (fun _ => ⟨(f2.cb (Nat.lt_of_lt_of_le htl f1.size) (fun h => h)).trans s2, (f2.cb (Nat.lt_of_lt_of_le htl f1.size) (fun h => h)).trans s4, (f2.cb (Nat.lt_of_lt_of_le htl f1.size) (fun h => h)).trans s5⟩) ?_
    try simp only [Act.put, List.setIfInBounds_toArray, List.set_cons_zero, List.set_cons_succ]
    refine seqF_eff (by rfl) (by rfl) fun K hK => ?_
    unfold Oper.wp
    go_simp
    refine hK.out _ _ (fun h => absurd rfl h) ?_
    refine seqF_nil ?_
    clear hK p0 p1 p2 s0 s2 s4 s5 f1 f2 hS
    go_wp2_with fail
    go_quiet (fail)
    go_wp2_with fail
    obtain ⟨rfl, rfl⟩ := HZ.out
    go_ret2
    exact ⟨rfl, ff.drewN _⟩
  have g3 : decide (4 < area) = false := decide_eq_false k3
  by_cases k4 : idx < 0
  · have HZ := Lib.hid (HN.out (fun ht => by have := (HT.out.1 ht).2.2.2.1; omega))
    have g4 : decide (idx < 0) = true := decide_eq_true k4
    go_enter Try.func65, Try.ntmps65
    go_wp2_with (first
      | (refine im_box rfl 25 _ rfl rfl ?_; intro w1 b1 f1 z1; have Z1 := Lib.hid z1; clear z1; obtain ⟨p0, p1, p2⟩ := plc_cells (p := ⟨d, area, idx⟩) b1; have hl1 := lt_of_blk b1; clear b1; have s0 := (f1.cb htl (fun h => h)).trans c0; have s2 := (f1.cb htl (fun h => h)).trans c2; have s4 := (f1.cb htl (fun h => h)).trans c4; have s5 := (f1.cb htl (fun h => h)).trans c5))
    clear c0 c1 c2 c3 c4 c5
    have hS : (fun W : World => W.cell? ⟨t, 2, none⟩ = some (.int .i64 n2) ∧ W.cell? ⟨t, 4, none⟩ = some (.int .i64 n4) ∧ W.cell? ⟨t, 5, none⟩ = some (.int .i64 n5)) w1.drew := ⟨s2, s4, s5⟩
    refine wp_region_seqF (fun W => W.cell? ⟨t, 2, none⟩ = some (.int .i64 n2) ∧ W.cell? ⟨t, 4, none⟩ = some (.int .i64 n4) ∧ W.cell? ⟨t, 5, none⟩ = some (.int .i64 n5)) [0, 1, 2, 3, 4, 5, 6, 7, 8, 9, 10, 11, 12, 13, 14, 15, 16, 17, 18, 19, 20, 21] [20, 21] 21 (by kernel_rfl) (by kernel_rfl) (by kernel_rfl) ?_
    simp only [pickOps, List.filterMap_cons, List.filterMap_nil, List.getElem?_toArray, List.getElem?_cons_zero, List.getElem?_cons_succ, Option.map_some]
    repeat (refine seqF_read (v := ?_) (by rfl) (by rfl) hS ?_ ?_; rotate_left; (focus (intro W hS; (try dsimp only at hS); obtain ⟨s1, s2, s3⟩ := hS; go_simp; try with_reducible rfl)); simp only [Act.put, List.setIfInBounds_toArray, List.set_cons_zero, List.set_cons_succ])
    refine seqF_eff (by rfl) (by rfl) fun K hK => ?_
    unfold Oper.wp
    go_simp
    obtain ⟨w2, hw2⟩ : ∃ w2, w2 = (w1.alloc (.cells #[.int .i64 n4, .int .i64 n5, .int .i64 n5, .int .i64 n2] 3)).drew := ⟨_, rfl⟩
    obtain ⟨blk, hblk⟩ : ∃ blk, blk = w1.heap.size := ⟨_, rfl⟩
    have b2 : w2.heap[blk]? = some (.cells #[.int .i64 n4, .int .i64 n5, .int .i64 n5, .int .i64 n2] 3 (0, 0)) := by rw [hw2, hblk]; exact heap_alloc_new w1 _
    have f2 : Fr (fun _ => False) w1 w2 := by rw [hw2]; exact ((Fr.refl _ _).alloc _).drew
    try rw [← hw2]
    try rw [← hblk]
    clear hw2 hblk
    have HB2 := Lib.hid b2; clear b2
    have ff := f1.trans f2
    have q0 := (f2.cb hl1 (fun h => h)).trans p0
    have q1 := (f2.cb hl1 (fun h => h)).trans p1
    have q2 := (f2.cb hl1 (fun h => h)).trans p2
    have r0 := (f2.cb (Nat.lt_of_lt_of_le htl f1.size) (fun h => h)).trans s0
    refine hK.out _ _ (fun _ => ⟨(f2.cb (Nat.lt_of_lt_of_le htl f1.size) (fun h => h)).trans s2, (f2.cb (Nat.lt_of_lt_of_le htl f1.size) (fun h => h)).trans s4, (f2.cb (Nat.lt_of_lt_of_le htl f1.size) (fun h => h)).trans s5⟩) ?_
    try simp only [Act.put, List.setIfInBounds_toArray, List.set_cons_zero, List.set_cons_succ]
    refine seqF_eff (by rfl) (by rfl) fun K hK => ?_
    unfold Oper.wp
    go_simp
    refine hK.out _ _ (fun h => absurd rfl h) ?_
    refine seqF_nil ?_
    clear hK p0 p1 p2 s0 s2 s4 s5 f1 f2 hS
    go_wp2_with fail
    go_quiet (fail)
    go_wp2_with fail
    obtain ⟨rfl, rfl⟩ := HZ.out
    go_ret2
    exact ⟨rfl, ff.drewN _⟩
  have g4 : decide (idx < 0) = false := decide_eq_false k4
  obtain ⟨a, rfl⟩ : ∃ a : Nat, area = (a : Int) + 1 := ⟨(area - 1).toNat, by omega⟩
  have ha3 : a ≤ 3 := by omega
  have ha0 : (0 : Int) ≤ a := by omega
  have ha4 : (a : Int) < 4 := by omega
  obtain ⟨lim, hlim⟩ : ∃ lim, lim = ((Shf0.sizes ⟨n0, n1, n2, n3, n4, n5⟩)[a]?).getD 0 := ⟨_, rfl⟩
  have hth2 : T ↔ 0 ≤ idx ∧ idx < lim := by
    rw [HT.out, hlim, show (((a : Int) + 1 - 1).toNat) = a by omega]
    exact ⟨fun h => h.2.2.2, fun h => ⟨by omega, by omega, by omega, h⟩⟩
  have HT2 := Lib.hid hth2; clear hth2 HT
  have hlb : lim ≤ 65536 := by
    rw [hlim]
    have : a = 0 ∨ a = 1 ∨ a = 2 ∨ a = 3 := by omega
    rcases this with rfl | rfl | rfl | rfl <;> simp [Shf0.sizes] <;> omega
  have hcl : ∀ (W : World) (b : Nat), W.heap[b]? = some (.cells #[.int .i64 n4, .int .i64 n5, .int .i64 n5, .int .i64 n2] 3 (0, 0)) → W.cell? ⟨b, a, none⟩ = some (.int .i64 lim) := fun W b hb => by
    rw [cell_of_blk hb, hlim]
    have : a = 0 ∨ a = 1 ∨ a = 2 ∨ a = 3 := by omega
    rcases this with rfl | rfl | rfl | rfl <;> rfl
  have HCL := Lib.hid hcl; clear hcl
  have HLIM := Lib.hid hlim; clear hlim
  obtain ⟨pre, hpre⟩ : ∃ pre : Nat → Int, ∀ j, pre j = ((Shf0.sizes ⟨n0, n1, n2, n3, n4, n5⟩).take j).sum := ⟨_, fun _ => rfl⟩
  have hoff : Shf0.offset ⟨n0, n1, n2, n3, n4, n5⟩ ((a : Int) + 1) = pre a := by
    rw [hpre]; unfold Shf0.offset; rw [show (((a : Int) + 1 - 1).toNat) = a by omega]
  have hpre0 : pre 0 = 0 := by rw [hpre]; rfl
  have hstep : ∀ (W : World) (b : Nat), W.heap[b]? = some (.cells #[.int .i64 n4, .int .i64 n5, .int .i64 n5, .int .i64 n2] 3 (0, 0)) → ∀ j : Nat, j < 3 → ∃ z : Int, W.cell? ⟨b, j, none⟩ = some (.int .i64 z) ∧ pre (j + 1) = pre j + z ∧ (0 ≤ z ∧ z ≤ 65536) ∧ (0 ≤ pre j ∧ pre j ≤ 196608) := fun W b hb j hj => by
    have : j = 0 ∨ j = 1 ∨ j = 2 := by omega
    rcases this with rfl | rfl | rfl
    · exact ⟨n4, cell_of_blk hb, by simp [hpre, Shf0.sizes], by omega, by simp [hpre, Shf0.sizes]⟩
    · exact ⟨n5, cell_of_blk hb, by simp [hpre, Shf0.sizes], by omega, by simp [hpre, Shf0.sizes]; omega⟩
    · exact ⟨n5, cell_of_blk hb, by simp [hpre, Shf0.sizes]; omega, by omega, by simp [hpre, Shf0.sizes]; omega⟩
  clear hpre
  have HSTEP := Lib.hid hstep; clear hstep
  have HOFF := Lib.hid hoff; clear hoff
  have HP0 := Lib.hid hpre0; clear hpre0
  by_cases k6 : lim ≤ idx
  · have HZ := Lib.hid (HN.out (fun ht => by have := HT2.out.1 ht; omega))
    have g6 : decide (lim ≤ idx) = true := decide_eq_true k6
    go_enter Try.func65, Try.ntmps65
    go_wp2_with (first
      | (refine im_box rfl 25 _ rfl rfl ?_; intro w1 b1 f1 z1; have Z1 := Lib.hid z1; clear z1; obtain ⟨p0, p1, p2⟩ := plc_cells (p := ⟨d, (a : Int) + 1, idx⟩) b1; have hl1 := lt_of_blk b1; clear b1; have s0 := (f1.cb htl (fun h => h)).trans c0; have s2 := (f1.cb htl (fun h => h)).trans c2; have s4 := (f1.cb htl (fun h => h)).trans c4; have s5 := (f1.cb htl (fun h => h)).trans c5))
    clear c0 c1 c2 c3 c4 c5
    have hS : (fun W : World => W.cell? ⟨t, 2, none⟩ = some (.int .i64 n2) ∧ W.cell? ⟨t, 4, none⟩ = some (.int .i64 n4) ∧ W.cell? ⟨t, 5, none⟩ = some (.int .i64 n5)) w1.drew := ⟨s2, s4, s5⟩
    refine wp_region_seqF (fun W => W.cell? ⟨t, 2, none⟩ = some (.int .i64 n2) ∧ W.cell? ⟨t, 4, none⟩ = some (.int .i64 n4) ∧ W.cell? ⟨t, 5, none⟩ = some (.int .i64 n5)) [0, 1, 2, 3, 4, 5, 6, 7, 8, 9, 10, 11, 12, 13, 14, 15, 16, 17, 18, 19, 20, 21] [20, 21] 21 (by kernel_rfl) (by kernel_rfl) (by kernel_rfl) ?_
    simp only [pickOps, List.filterMap_cons, List.filterMap_nil, List.getElem?_toArray, List.getElem?_cons_zero, List.getElem?_cons_succ, Option.map_some]
    repeat (refine seqF_read (v := ?_) (by rfl) (by rfl) hS ?_ ?_; rotate_left; (focus (intro W hS; (try dsimp only at hS); obtain ⟨s1, s2, s3⟩ := hS; go_simp; try with_reducible rfl)); simp only [Act.put, List.setIfInBounds_toArray, List.set_cons_zero, List.set_cons_succ])
    refine seqF_eff (by rfl) (by rfl) fun K hK => ?_
    unfold Oper.wp
    go_simp
    obtain ⟨w2, hw2⟩ : ∃ w2, w2 = (w1.alloc (.cells #[.int .i64 n4, .int .i64 n5, .int .i64 n5, .int .i64 n2] 3)).drew := ⟨_, rfl⟩
    obtain ⟨blk, hblk⟩ : ∃ blk, blk = w1.heap.size := ⟨_, rfl⟩
    have b2 : w2.heap[blk]? = some (.cells #[.int .i64 n4, .int .i64 n5, .int .i64 n5, .int .i64 n2] 3 (0, 0)) := by rw [hw2, hblk]; exact heap_alloc_new w1 _
    have f2 : Fr (fun _ => False) w1 w2 := by rw [hw2]; exact ((Fr.refl _ _).alloc _).drew
    try rw [← hw2]
    try rw [← hblk]
    clear hw2 hblk
    have HB2 := Lib.hid b2; clear b2
    have ff := f1.trans f2
    have q0 := (f2.cb hl1 (fun h => h)).trans p0
    have q1 := (f2.cb hl1 (fun h => h)).trans p1
    have q2 := (f2.cb hl1 (fun h => h)).trans p2
    have r0 := (f2.cb (Nat.lt_of_lt_of_le htl f1.size) (fun h => h)).trans s0
    refine hK.out _ _ (fun _ => ⟨(f2.cb (Nat.lt_of_lt_of_le htl f1.size) (fun h => h)).trans s2, (f2.cb (Nat.lt_of_lt_of_le htl f1.size) (fun h => h)).trans s4, (f2.cb (Nat.lt_of_lt_of_le htl f1.size) (fun h => h)).trans s5⟩) ?_
    try simp only [Act.put, List.setIfInBounds_toArray, List.set_cons_zero, List.set_cons_succ]
    refine seqF_eff (by rfl) (by rfl) fun K hK => ?_
    unfold Oper.wp
    go_simp
    refine hK.out _ _ (fun h => absurd rfl h) ?_
    refine seqF_nil ?_
    clear hK p0 p1 p2 s0 s2 s4 s5 f1 f2 hS
    go_wp2_with fail
    have hlc := HCL.out _ _ HB2.out
    go_quiet (fail)
    go_wp2_with fail
    obtain ⟨rfl, rfl⟩ := HZ.out
    go_ret2
    exact ⟨rfl, ff.drewN _⟩
  have HZ := Lib.hid (HY.out (HT2.out.2 ⟨by omega, by omega⟩))
  have g6 : decide (lim ≤ idx) = false := decide_eq_false k6
  go_enter Try.func65, Try.ntmps65
  go_wp2_with (first
    | (refine im_box rfl 25 _ rfl rfl ?_; intro w1 b1 f1 z1; have Z1 := Lib.hid z1; clear z1; obtain ⟨p0, p1, p2⟩ := plc_cells (p := ⟨d, (a : Int) + 1, idx⟩) b1; have hl1 := lt_of_blk b1; clear b1; have s0 := (f1.cb htl (fun h => h)).trans c0; have s2 := (f1.cb htl (fun h => h)).trans c2; have s4 := (f1.cb htl (fun h => h)).trans c4; have s5 := (f1.cb htl (fun h => h)).trans c5))
  clear c0 c1 c2 c3 c4 c5
  have hS : (fun W : World => W.cell? ⟨t, 2, none⟩ = some (.int .i64 n2) ∧ W.cell? ⟨t, 4, none⟩ = some (.int .i64 n4) ∧ W.cell? ⟨t, 5, none⟩ = some (.int .i64 n5)) w1.drew := ⟨s2, s4, s5⟩
  refine wp_region_seqF (fun W => W.cell? ⟨t, 2, none⟩ = some (.int .i64 n2) ∧ W.cell? ⟨t, 4, none⟩ = some (.int .i64 n4) ∧ W.cell? ⟨t, 5, none⟩ = some (.int .i64 n5)) [0, 1, 2, 3, 4, 5, 6, 7, 8, 9, 10, 11, 12, 13, 14, 15, 16, 17, 18, 19, 20, 21] [20, 21] 21 (by kernel_rfl) (by kernel_rfl) (by kernel_rfl) ?_
  simp only [pickOps, List.filterMap_cons, List.filterMap_nil, List.getElem?_toArray, List.getElem?_cons_zero, List.getElem?_cons_succ, Option.map_some]
  repeat (refine seqF_read (v := ?_) (by rfl) (by rfl) hS ?_ ?_; rotate_left; (focus (intro W hS; (try dsimp only at hS); obtain ⟨s1, s2, s3⟩ := hS; go_simp; try with_reducible rfl)); simp only [Act.put, List.setIfInBounds_toArray, List.set_cons_zero, List.set_cons_succ])
  refine seqF_eff (by rfl) (by rfl) fun K hK => ?_
  unfold Oper.wp
  go_simp
  obtain ⟨w2, hw2⟩ : ∃ w2, w2 = (w1.alloc (.cells #[.int .i64 n4, .int .i64 n5, .int .i64 n5, .int .i64 n2] 3)).drew := ⟨_, rfl⟩
  obtain ⟨blk, hblk⟩ : ∃ blk, blk = w1.heap.size := ⟨_, rfl⟩
  have b2 : w2.heap[blk]? = some (.cells #[.int .i64 n4, .int .i64 n5, .int .i64 n5, .int .i64 n2] 3 (0, 0)) := by rw [hw2, hblk]; exact heap_alloc_new w1 _
  have f2 : Fr (fun _ => False) w1 w2 := by rw [hw2]; exact ((Fr.refl _ _).alloc _).drew
  try rw [← hw2]
  try rw [← hblk]
  clear hw2 hblk
  have HB2 := Lib.hid b2; clear b2
  have ff := f1.trans f2
  have q0 := (f2.cb hl1 (fun h => h)).trans p0
  have q1 := (f2.cb hl1 (fun h => h)).trans p1
  have q2 := (f2.cb hl1 (fun h => h)).trans p2
  have r0 := (f2.cb (Nat.lt_of_lt_of_le htl f1.size) (fun h => h)).trans s0
  refine hK.out _ _ (fun _ => ⟨(f2.cb (Nat.lt_of_lt_of_le htl f1.size) (fun h => h)).trans s2, (f2.cb (Nat.lt_of_lt_of_le htl f1.size) (fun h => h)).trans s4, (f2.cb (Nat.lt_of_lt_of_le htl f1.size) (fun h => h)).trans s5⟩) ?_
  try simp only [Act.put, List.setIfInBounds_toArray, List.set_cons_zero, List.set_cons_succ]
  refine seqF_eff (by rfl) (by rfl) fun K hK => ?_
  unfold Oper.wp
  go_simp
  refine hK.out _ _ (fun h => absurd rfl h) ?_
  refine seqF_nil ?_
  clear hK p0 p1 p2 s0 s2 s4 s5 f1 f2 hS
  go_wp2_with fail
  have hlc := HCL.out _ _ HB2.out
  go_quiet (fail)
  go_wp2_with fail
  obtain ⟨w3, hw3⟩ : ∃ w3, w3 = w2.drewN nq := ⟨_, rfl⟩
  have f3 : Fr (fun _ => False) w2 w3 := by rw [hw3]; exact (Fr.refl _ _).drewN _
  rw [← hw3]
  have u1 := (f3.cb (World.block_lt_of_cell? w2 _ q1) (fun h => h)).trans q1
  have HB3 := Lib.hid ((f3.block _ (lt_of_blk HB2.out) (fun h => h)).trans HB2.out)
  have FF := Lib.hid (ff.trans f3)
  clear hw3 f3 ff q0 q1 q2 r0 hlc HB2 hl1 g0 g1 g2 g3 g4 g6
  go_loopg [7, 8] a (fun m t7 t8 wr => ∃ j : Nat, m + j = a ∧ t8 = .int .i64 j ∧ t7 = .int .i64 (idx + pre j) ∧ wr = w3)
  case atStart => exact ⟨0, rfl, rfl, by rw [HP0.out, Int.add_zero], rfl⟩
  case round =>
    obtain ⟨j, hm, rfl, rfl, hwr⟩ := hrel
    subst hwr
    have HM := Lib.hid hm; clear hm
    by_cases hj : j < a
    · obtain ⟨z, hz, hz1, hz2, hz3⟩ := HSTEP.out _ _ HB3.out j (by omega)
      have HZ1 := Lib.hid hz1; clear hz1
      have hja : (j : Int) < a := by omega
      have hj4 : (j : Int) < 4 := by omega
      have hjl : j < 4 := by omega
      go_wp2_with fail
      have hn : gk + j = a := HM.out
      go_roundg (gk - 1)
      case measure => omega
      case rel => exact ⟨j + 1, by omega, by go_num, by rw [HZ1.out]; congr 1; omega, rfl⟩
    · have hjn : j = a := by have := HM.out; omega
      subst hjn
      clear hj
      go_wp2_with fail
      obtain ⟨hz1, rfl⟩ := HZ.out
      have hz2 : num = idx + pre j := by rw [hz1, HOFF.out, Int.add_comm]
      subst hz2
      go_ret2
      exact ⟨rfl, FF.out⟩


end
end Go.Proofs.Ytmbkmfpnjpkakaa

