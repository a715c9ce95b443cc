/- The program's shelf: Clone. -/
import Derived.Test.YtmbkmfpnjpkakaaX5
namespace Go.Proofs.Ytmbkmfpnjpkakaa
open Go.RowKit Go.Im Go.Dsk0

theorem zero104 (w : World) : (zeroValue 104).run Try.prog w = .ok (.agg #[.int .i64 0, .int .i64 0, .int .i64 0, .int .i64 0, .int .i64 0, .int .i64 0, .slice none 0 0, .slice none 0 0, .bool false, .bool false, .int .i64 0]) w := by kernel_rfl
theorem info104 : (Try.prog.info? 104).map (·.size) = some 11 := by kernel_rfl
theorem shelf_one (n0 n1 n2 n3 n4 n5 n6 : Int) (u v : Value) (x y : Bool) (hu : u.oneCell' = true) (hv : v.oneCell' = true) : (#[.int .i64 n0, .int .i64 n1, .int .i64 n2, .int .i64 n3, .int .i64 n4, .int .i64 n5, u, v, .bool x, .bool y, .int .i64 n6] : Array Value).all (·.oneCell') = true := by simp [hu, hv]; simp [Value.oneCell']

/-- What Clone leaves. -/
def SClone (S : Shf0.Shelf) (w : World) (e : Ending) (w' : World) : Prop := ∃ c : Nat, e = .returned (.pointer (some ⟨c, 0, none⟩)) ∧ ShelfAt w' (fun q => w.heap.size ≤ q ∧ q < w'.heap.size) c S ∧ Fr (fun _ => False) w w'

section
variable {w : World} {O : Nat → Prop} {s : Nat} {S : Shf0.Shelf}

set_option maxRecDepth 100000 in
set_option maxHeartbeats 4000000 in
theorem sclone'_calls (h : ShelfAt w O s S) (hil : S.images.length ≤ 1000) : Calls Try.prog 56 #[.pointer (some ⟨s, 0, none⟩)] w fun e w' => SClone S w e w' := by
  obtain ⟨bs0, im0, bv0, iv0, hin⟩ := h
  obtain ⟨hp1, hp2, hp3⟩ := hin.pos
  obtain ⟨vb, cap, cur, hbv, hvb, hcz, hOv, hcell⟩ := hin.open_
  obtain ⟨ia, ic, hiv, hili, himg⟩ := hin.image
  obtain ⟨nb, hnb⟩ : ∃ nb, nb = bs0.length := ⟨_, rfl⟩
  obtain ⟨ni, hni⟩ : ∃ ni, ni = im0.length := ⟨_, rfl⟩
  rw [← hnb] at hbv
  rw [← hni] at hiv
  obtain ⟨n0, hn0⟩ : ∃ n0, n0 = S.cfg.disks := ⟨_, rfl⟩
  obtain ⟨n1, hn1⟩ : ∃ n1, n1 = S.cfg.racks := ⟨_, rfl⟩
  obtain ⟨n2, hn2⟩ : ∃ n2, n2 = S.cfg.rows := ⟨_, rfl⟩
  obtain ⟨n3, hn3⟩ : ∃ n3, n3 = S.cfg.spare := ⟨_, rfl⟩
  obtain ⟨n4, hn4⟩ : ∃ n4, n4 = S.cfg.log := ⟨_, rfl⟩
  obtain ⟨n5, hn5⟩ : ∃ n5, n5 = S.cfg.image := ⟨_, rfl⟩
  obtain ⟨x8, hx8⟩ : ∃ x8, x8 = S.off := ⟨_, rfl⟩
  obtain ⟨x9, hx9⟩ : ∃ x9, x9 = S.fused := ⟨_, rfl⟩
  obtain ⟨n6, hn6⟩ : ∃ n6, n6 = S.left := ⟨_, rfl⟩
  have hsc : ∀ bv iv, shelfC S bv iv = #[.int .i64 n0, .int .i64 n1, .int .i64 n2, .int .i64 n3, .int .i64 n4, .int .i64 n5, bv, iv, .bool x8, .bool x9, .int .i64 n6] := fun bv iv => by
    unfold shelfC; rw [hn0, hn1, hn2, hn3, hn4, hn5, hx8, hx9, hn6]
  have HSC := Lib.hid hsc
  have hhead := hin.head
  rw [hsc, hbv, hiv] at hhead
  have u0 : w.cell? ⟨s, 0, none⟩ = some (.int .i64 n0) := cell_of_blk hhead
  have u1 : w.cell? ⟨s, 1, none⟩ = some (.int .i64 n1) := cell_of_blk hhead
  have u2 : w.cell? ⟨s, 2, none⟩ = some (.int .i64 n2) := cell_of_blk hhead
  have u3 : w.cell? ⟨s, 3, none⟩ = some (.int .i64 n3) := cell_of_blk hhead
  have u4 : w.cell? ⟨s, 4, none⟩ = some (.int .i64 n4) := cell_of_blk hhead
  have u5 : w.cell? ⟨s, 5, none⟩ = some (.int .i64 n5) := cell_of_blk hhead
  have u6 : w.cell? ⟨s, 6, none⟩ = some (.slice (some ⟨vb, 0, none⟩) nb cap) := cell_of_blk hhead
  have u7 : w.cell? ⟨s, 7, none⟩ = some (.slice ia ni ic) := cell_of_blk hhead
  have u8 : w.cell? ⟨s, 8, none⟩ = some (.bool x8) := cell_of_blk hhead
  have u9 : w.cell? ⟨s, 9, none⟩ = some (.bool x9) := cell_of_blk hhead
  have u10 : w.cell? ⟨s, 10, none⟩ = some (.int .i64 n6) := cell_of_blk hhead
  have hslt := lt_of_blk hhead
  have hvlt := lt_of_blk hvb
  have hsl : S.bays.length = nb := by omega
  have hsi : S.images.length = ni := by omega
  have hn64 : nb ≤ 64 := by omega
  have hn1000 : ni ≤ 1000 := by omega
  have HSL := Lib.hid hsl
  have HSI := Lib.hid hsi
  have HIN := Lib.hid hin
  have HCELL := Lib.hid hcell
  have HIMG := Lib.hid himg
  have HOK := Lib.hid hin.ok
  have HEB := Lib.hid hin.eb
  have HEI := Lib.hid hin.ei
  have HNB := Lib.hid hnb
  have HNI := Lib.hid hni
  obtain ⟨i6, hi6, hy60, hy61, hy62⟩ := info_parts info106'
  obtain ⟨i4, hi4, hy40, hy41, hy42⟩ := info_parts info41'
  clear hcell himg hin hbv hiv hcz hvb hp1 hp2 hp3 hn0 hn1 hn2 hn3 hn4 hn5 hn6 hx8 hx9 hsc hhead hsl hsi hil hili hnb hni hOv
  go_enter Try.func56, Try.ntmps56
  go_wp2_with (first
    | (refine im_alloc_row rfl 104 rfl (zero104 _) ?_; intro w1 b1 f1 z1; have B1 := Lib.hid b1; clear b1; have Z1 := Lib.hid z1; clear z1)
    | (refine im_store_row rfl 104 _ _ rfl (vs := #[.int .i64 n0, .int .i64 n1, .int .i64 n2, .int .i64 n3, .int .i64 n4, .int .i64 n5, .slice (some ⟨vb, 0, none⟩) nb cap, .slice ia ni ic, .bool x8, .bool x9, .int .i64 n6]) rfl rfl B1.out rfl info104 (shelf_one _ _ _ _ _ _ _ _ _ _ _ rfl rfl) ?_; intro w2 b2 f2 z2; have B2 := Lib.hid b2; clear b2; have Z2 := Lib.hid z2; clear z2)
    | (refine im_store1 (j := 6) rfl 101 _ _ rfl (b := w.heap.size) (v := .slice none 0 0) rfl rfl rfl (by kernel_rfl) B2.out (by simp) ?_; intro w3 b3 f3 z3; have B3 := Lib.hid b3; clear b3; have Z3 := Lib.hid z3; clear z3)
    | (refine im_store1 (j := 7) rfl 102 _ _ rfl (b := w.heap.size) (v := .slice none 0 0) rfl rfl rfl (by kernel_rfl) B3.out (by simp) ?_; intro w4 b4 f4 z4; have B4 := Lib.hid b4; clear b4; have Z4 := Lib.hid z4; clear z4; have ff4 : Fr (fun q => w.heap.size ≤ q) w w4 := f1.no.trans ((f2.trans (f3.trans f4)).mono (fun q _ hq => by omega)); have t6 := ((fr_below' ff4).cb hslt (fun h => h)).trans u6))
  have hcp : Copying w S w.heap.size 0 0 [] [] (.slice none 0 0) (.slice none 0 0) w4 := ⟨by rw [HSC.out]; exact B4.out, World.ownsRow_nil _ _ _ _, World.ownsRow_nil _ _ _ _, rfl, rfl, rfl, rfl, (by intro x hx; cases hx), (by intro x hx; cases hx), (by intro x hx; cases hx), List.Pairwise.nil, ff4, Nat.le_refl _⟩
  obtain ⟨cb, hcb⟩ : ∃ cb, cb = w.heap.size := ⟨_, rfl⟩
  rw [← hcb] at hcp
  rw [← hcb]
  have HCP := Lib.hid hcp
  clear hcp hcb f1 f2 f3 f4 ff4 B1 B2 B3 B4 Z1 Z2 Z3 Z4 u0 u1 u2 u3 u4 u5 u6 u8 u9 u10 t6
  go_loopg [18] nb (fun m t wr => ∃ (k : Nat) (bs : List (Loc × Shf0.Bay)) (bv : Value), m + k = nb ∧ t = .int .i64 k ∧ Copying w S cb k 0 bs [] bv (.slice none 0 0) wr)
  case atStart => exact ⟨0, _, _, rfl, rfl, HCP.out⟩
  case round =>
    obtain ⟨k, bs, bv, hm, rfl, hmk⟩ := hrel
    have HM := Lib.hid hm; clear hm
    have HK := Lib.hid hmk; clear hmk
    have hfw := fr_below' HK.out.fr
    by_cases hk : k < nb
    · obtain ⟨L, b, hx, hsb, hkb⟩ := HIN.out.at (k := k) (by rw [HSL.out]; exact hk)
      obtain ⟨q0, q1⟩ := HCELL.out k _ hx
      simp only at q0 q1
      obtain ⟨st, hst⟩ : ∃ st, st = b.st := ⟨_, rfl⟩
      rw [← hst] at q1
      have HST := Lib.hid hst; clear hst
      unfold Loc.ptr at q0
      have r0 := (hfw.cb hvlt (fun h => h)).trans q0
      have r1 := (hfw.cb hvlt (fun h => h)).trans q1
      have k1 : (k : Int) < nb := by omega
      have HSB := Lib.hid hsb
      have hDK := Lib.hid ((HIN.out.kb _ (List.mem_of_getElem? hx)).keep hfw)
      have c6 : wr.cell? ⟨cb, 6, none⟩ = some bv := cell_of_blk HK.out.head
      have hcl := lt_of_blk HK.out.head
      clear hx hsb hkb q0 q1 hfw
      go_wp2_with (first
        | (refine im_alloc_row rfl 106 rfl (zero106 _) ?_; intro y1 b1 f1 z1; have B1 := Lib.hid b1; clear b1; have Z1 := Lib.hid z1; clear z1)
        | (refine im_store_row rfl 106 _ _ rfl (vs := #[.pointer (some ⟨L.g, 0, none⟩), .int .i64 st]) rfl rfl B1.out rfl info106 (bay_one _ rfl _) ?_; intro y2 b2 f2 z2; have p0 : y2.cell? ⟨wr.heap.size, 0, none⟩ = some (.pointer (some ⟨L.g, 0, none⟩)) := cell_of_blk b2; have p1 : y2.cell? ⟨wr.heap.size, 1, none⟩ = some (.int .i64 st) := cell_of_blk b2; have HBX := Lib.hid b2; clear b2; have Z2 := Lib.hid z2; clear z2))
      have hf2 : Fr (fun _ => False) wr y2 := fr_below' (f1.no.trans (f2.mono fun q _ hq => by omega))
      have hxl := lt_of_blk HBX.out
      have d6 := (hf2.cb hcl (fun h => h)).trans c6
      have hcl2 := Nat.lt_of_lt_of_le hcl hf2.size
      obtain ⟨xb, hxb⟩ : ∃ xb, xb = wr.heap.size := ⟨_, rfl⟩
      have HXB := Lib.hid hxb
      rw [← hxb] at p0 p1 hxl HBX
      rw [← hxb]
      clear hxb f1 f2 B1 Z1 Z2 c6 r0 r1
      have hS : (fun W : World => W.cell? ⟨cb, 6, none⟩ = some bv ∧ W.cell? ⟨xb, 0, none⟩ = some (.pointer (some ⟨L.g, 0, none⟩)) ∧ W.cell? ⟨xb, 1, none⟩ = some (.int .i64 st)) y2.drew := ⟨d6, p0, p1⟩
      refine wp_region_seqF (fun W => W.cell? ⟨cb, 6, none⟩ = some bv ∧ W.cell? ⟨xb, 0, none⟩ = some (.pointer (some ⟨L.g, 0, none⟩)) ∧ W.cell? ⟨xb, 1, none⟩ = some (.int .i64 st)) [0, 1, 2, 3, 5, 6, 4, 7, 8, 9, 10, 11] [4, 8, 9, 11] 11 (by kernel_rfl) (by kernel_rfl) (by kernel_rfl) ?_
      simp only [pickOps, List.filterMap_cons, List.filterMap_nil, List.getElem?_toArray, List.getElem?_cons_zero, List.getElem?_cons_succ, Option.map_some]
      repeat (refine seqF_read (v := ?_) (by rfl) (by rfl) hS ?_ ?_; rotate_left; (focus (intro W hS; (try dsimp only at hS); obtain ⟨s1, s2, s3⟩ := hS; go_simp; try with_reducible rfl)); simp only [Act.put, List.setIfInBounds_toArray, List.set_cons_zero, List.set_cons_succ])
      refine seqF_eff (by rfl) (by rfl) fun K hK => ?_
      refine wp_callC 43 #[.pointer (some ⟨L.g, 0, none⟩)] (by go_simp) (R := fun v w' => ∃ M : Loc, v = .pointer (some ⟨M.g, 0, none⟩) ∧ DK w' M b.D ∧ (∀ q, M.has q → y2.heap.size ≤ q) ∧ Fr (fun _ => False) y2 w') ((clone_calls L.g L.bd L.bc L.ba b.D y2.drew ((hDK.out.keep hf2).keep (Fr.refl _ y2).drew).disk).mono (by
        rintro e w' ⟨g, bd, bc, ba, rfl, hd, hf, hbd, hbc, hba, hg⟩
        obtain ⟨M, hLg, hL, hLh⟩ := DK.of hd y2.heap.size hg hbd hbc hba
        exact ⟨_, rfl, M, by rw [hLg], hL, hLh, hf.undrew⟩)) ?_
      rintro v y3 ⟨M, rfl, hM, hMh, g3⟩
      have hS3 : (fun W : World => W.cell? ⟨cb, 6, none⟩ = some bv ∧ W.cell? ⟨xb, 0, none⟩ = some (.pointer (some ⟨L.g, 0, none⟩)) ∧ W.cell? ⟨xb, 1, none⟩ = some (.int .i64 st)) y3 := ⟨(g3.cb hcl2 (fun h => h)).trans d6, (g3.cb hxl (fun h => h)).trans p0, (g3.cb hxl (fun h => h)).trans p1⟩
      have HDM := Lib.hid hM; clear hM
      have HMH := Lib.hid hMh; clear hMh
      refine hK.out _ _ (fun _ => hS3) ?_
      simp only [Act.put, List.setIfInBounds_toArray, List.set_cons_zero, List.set_cons_succ]
      repeat (refine seqF_read (v := ?_) (by rfl) (by rfl) hS3 ?_ ?_; rotate_left; (focus (intro W hS; (try dsimp only at hS); obtain ⟨s1, s2, s3⟩ := hS; go_simp; try with_reducible rfl)); simp only [Act.put, List.setIfInBounds_toArray, List.set_cons_zero, List.set_cons_succ])
      refine seqF_eff (by rfl) (by rfl) fun K hK => ?_
      unfold Oper.wp
      go_simp
      obtain ⟨y4, hy4⟩ : ∃ y4, y4 = y3.alloc (.cells #[.pointer (some ⟨M.g, 0, none⟩), .int .i64 st] 106) := ⟨_, rfl⟩
      have b4 : y4.heap[y3.heap.size]? = some (.cells #[.pointer (some ⟨M.g, 0, none⟩), .int .i64 st] 106 (0, 0)) := by rw [hy4]; exact heap_alloc_new y3 _
      have g4 : Fr (fun _ => False) y3 y4 := by rw [hy4]; exact (Fr.refl _ _).alloc _
      rw [← hy4]
      clear hy4
      have hcl3 := Nat.lt_of_lt_of_le hcl2 g3.size
      have hxl3 := Nat.lt_of_lt_of_le hxl g3.size
      have hS4 : (fun W : World => W.cell? ⟨cb, 6, none⟩ = some bv ∧ W.cell? ⟨xb, 0, none⟩ = some (.pointer (some ⟨L.g, 0, none⟩)) ∧ W.cell? ⟨xb, 1, none⟩ = some (.int .i64 st)) y4 := ⟨(g4.cb hcl3 (fun h => h)).trans hS3.1, (g4.cb hxl3 (fun h => h)).trans hS3.2.1, (g4.cb hxl3 (fun h => h)).trans hS3.2.2⟩
      refine hK.out _ _ (fun _ => hS4) ?_
      refine seqF_eff (by rfl) (by rfl) fun K hK => ?_
      have g04 : Fr (fun _ => False) wr y4 := (hf2.trans g3).trans g4
      have HK4 := Lib.hid (HK.out.keep g04)
      have hw0 := HK4.out.fr.size
      refine wp_append_el _ _ 101 rfl w.heap.size mt101 hi6 hy60 hy61 hy62 rfl (by decide) rfl HK4.out.row rfl b4 rfl (by simp [Value.oneCell']) (by unfold maxLen; omega) (by omega) hw0 ?_
      intro v' y5 o5 gr5
      have g5 : Fr (fun q => some q = bv.ownBlock) y4 y5 := Fr.of_grown gr5
      have hcl4 := Nat.lt_of_lt_of_le hcl3 g4.size
      have hxl4 := Nat.lt_of_lt_of_le hxl3 g4.size
      have hnc : ¬ some cb = bv.ownBlock := own_not HK4.out.row HK4.out.head (by decide)
      have hnx : ¬ some xb = bv.ownBlock := by
        intro he
        have h1 := row_block HK.out.row he
        obtain ⟨-, h2 | ⟨g, cap', cur', h2, -, h5, -⟩⟩ := HK.out.row
        · rw [h2.1] at he; cases he
        · rw [h2] at he
          injection he with he
          have h6 : xb < wr.heap.size := by rw [he]; exact lt_of_blk h5
          have h7 := HXB.out
          omega
      have hS5 : (fun W : World => W.cell? ⟨cb, 6, none⟩ = some bv ∧ W.cell? ⟨xb, 0, none⟩ = some (.pointer (some ⟨L.g, 0, none⟩)) ∧ W.cell? ⟨xb, 1, none⟩ = some (.int .i64 st)) y5 := ⟨(g5.cb hcl4 hnc).trans hS4.1, (g5.cb hxl4 hnx).trans hS4.2.1, (g5.cb hxl4 hnx).trans hS4.2.2⟩
      have HH5 := Lib.hid ((g5.block _ hcl4 hnc).trans HK4.out.head)
      have O5 := Lib.hid o5; clear o5
      refine hK.out _ _ (fun _ => hS5) ?_
      simp only [Act.put, List.setIfInBounds_toArray, List.set_cons_zero, List.set_cons_succ]
      repeat (refine seqF_read (v := ?_) (by rfl) (by rfl) hS5 ?_ ?_; rotate_left; (focus (intro W hS; (try dsimp only at hS); obtain ⟨s1, s2, s3⟩ := hS; go_simp; try with_reducible rfl)); simp only [Act.put, List.setIfInBounds_toArray, List.set_cons_zero, List.set_cons_succ])
      refine seqF_eff (by rfl) (by rfl) fun K hK => ?_
      have hv1 : v'.oneCell' = true := by
        obtain ⟨-, h2 | ⟨gb, vc, cur', h2, -⟩⟩ := O5.out
        · rw [h2.1]; rfl
        · rw [h2]; rfl
      refine wp_store1 101 _ _ rfl (v := v') rfl rfl hv1 (by kernel_rfl) HH5.out (by simp [shelfC]) ?_
      intro y6 b6 g6 z6
      have B6 := Lib.hid b6; clear b6 z6
      refine hK.out _ _ (fun h => absurd rfl h) ?_
      refine seqF_nil ?_
      have hsz2 := hf2.size
      have hfin := HK.out.bay HSB.out g04 (HDM.out.keep g4) (fun q hq => Nat.le_trans hsz2 (HMH.out q hq)) g5 (by have := O5.out; rw [HST.out] at this; exact this) g6 B6.out
      have HFIN := Lib.hid hfin; clear hfin
      clear hK hS hS3 hS4 hS5 d6 p0 p1 g3 g4 g5 g6 gr5 hnc hnx g04 hf2 hv1 b4 HH5 HK4 HBX HXB
      go_wp2_with fail
      have hn : gk + k = nb := HM.out
      go_roundg (gk - 1)
      case measure => omega
      case rel => exact ⟨k + 1, _, _, by omega, by go_num, HFIN.out⟩
    · have hkn : k = nb := by have := HM.out; omega
      subst hkn
      have v7 := (hfw.cb hslt (fun h => h)).trans u7
      have HFW := Lib.hid hfw
      clear HCP hfw HM hk
      go_wp2_with fail
      have c7 : wr.cell? ⟨cb, 7, none⟩ = some (.slice none 0 0) := cell_of_blk HK.out.head
      have hcl := lt_of_blk HK.out.head
      clear c7 hcl v7
      go_loopg [39] ni (fun m t wr => ∃ (j : Nat) (im : List (Loc × Dsk)) (iv : Value), m + j = ni ∧ t = .int .i64 j ∧ Copying w S cb k j bs im bv iv wr)
      case atStart => exact ⟨0, _, _, rfl, rfl, HK.out⟩
      case round =>
        obtain ⟨j, im, iv, hm, rfl, hmk⟩ := hrel
        have HM := Lib.hid hm; clear hm
        have HJ := Lib.hid hmk; clear hmk
        have hfw := fr_below' HJ.out.fr
        by_cases hj : j < ni
        · obtain ⟨⟨L, D⟩, hxi⟩ : ∃ x, im0[j]? = some x := ⟨_, List.getElem?_eq_getElem (by have := HNI.out; omega)⟩
          obtain ⟨ib, rfl, ci, hibl⟩ := HIMG.out j _ hxi
          have hDi : S.images[j]? = some D := by rw [HEI.out, List.getElem?_map, hxi]; rfl
          have HDI := Lib.hid hDi
          simp only at ci
          unfold Loc.ptr at ci
          have r0 := (hfw.cb hibl (fun h => h)).trans ci
          have k1 : (j : Int) < ni := by omega
          have hDK := Lib.hid ((HIN.out.ki _ (List.mem_of_getElem? hxi)).keep hfw)
          simp only at hDK
          have c7 : wr.cell? ⟨cb, 7, none⟩ = some iv := cell_of_blk HJ.out.head
          have hcl := lt_of_blk HJ.out.head
          clear hxi hDi ci hfw
          go_wp2_with fail
          have hS : (fun W : World => W.cell? ⟨cb, 7, none⟩ = some iv) wr.drew := c7
          refine wp_region_seqF (fun W => W.cell? ⟨cb, 7, none⟩ = some iv) [0, 1, 2, 3, 4, 5, 6, 7] [3, 4, 5, 7] 7 (by kernel_rfl) (by kernel_rfl) (by kernel_rfl) ?_
          simp only [pickOps, List.filterMap_cons, List.filterMap_nil, List.getElem?_toArray, List.getElem?_cons_zero, List.getElem?_cons_succ, Option.map_some]
          repeat (refine seqF_read (v := ?_) (by rfl) (by rfl) hS ?_ ?_; rotate_left; (focus (intro W hS; (try dsimp only at hS); go_simp; try with_reducible rfl)); simp only [Act.put, List.setIfInBounds_toArray, List.set_cons_zero, List.set_cons_succ])
          refine seqF_eff (by rfl) (by rfl) fun K hK => ?_
          refine wp_callC 43 #[.pointer (some ⟨L.g, 0, none⟩)] (by go_simp) (R := fun v w' => ∃ M : Loc, v = .pointer (some ⟨M.g, 0, none⟩) ∧ DK w' M D ∧ (∀ q, M.has q → wr.heap.size ≤ q) ∧ Fr (fun _ => False) wr w') ((clone_calls L.g L.bd L.bc L.ba D wr.drew (hDK.out.keep (Fr.refl _ wr).drew).disk).mono (by
            rintro e w' ⟨g, bd, bc, ba, rfl, hd, hf, hbd, hbc, hba, hg⟩
            obtain ⟨M, hLg, hL, hLh⟩ := DK.of hd wr.heap.size hg hbd hbc hba
            exact ⟨_, rfl, M, by rw [hLg], hL, hLh, hf.undrew⟩)) ?_
          rintro v y3 ⟨M, rfl, hM, hMh, g3⟩
          have hS3 : (fun W : World => W.cell? ⟨cb, 7, none⟩ = some iv) y3 := (g3.cb hcl (fun h => h)).trans c7
          have HDM := Lib.hid hM; clear hM
          have HMH := Lib.hid hMh; clear hMh
          refine hK.out _ _ (fun _ => hS3) ?_
          simp only [Act.put, List.setIfInBounds_toArray, List.set_cons_zero, List.set_cons_succ]
          refine seqF_eff (by rfl) (by rfl) fun K hK => ?_
          unfold Oper.wp
          go_simp
          obtain ⟨y4, hy4⟩ : ∃ y4, y4 = y3.alloc (.cells #[.pointer (some ⟨M.g, 0, none⟩)] 41) := ⟨_, rfl⟩
          have b4 : y4.heap[y3.heap.size]? = some (.cells #[.pointer (some ⟨M.g, 0, none⟩)] 41 (0, 0)) := by rw [hy4]; exact heap_alloc_new y3 _
          have g4 : Fr (fun _ => False) y3 y4 := by rw [hy4]; exact (Fr.refl _ _).alloc _
          rw [← hy4]
          clear hy4
          have hcl3 := Nat.lt_of_lt_of_le hcl g3.size
          have hS4 : (fun W : World => W.cell? ⟨cb, 7, none⟩ = some iv) y4 := (g4.cb hcl3 (fun h => h)).trans hS3
          refine hK.out _ _ (fun _ => hS4) ?_
          refine seqF_eff (by rfl) (by rfl) fun K hK => ?_
          have g04 : Fr (fun _ => False) wr y4 := g3.trans g4
          have HK4 := Lib.hid (HJ.out.keep g04)
          have hw0 := HK4.out.fr.size
          refine wp_append_el _ _ 102 rfl w.heap.size mt102 hi4 hy40 hy41 hy42 rfl (by decide) rfl HK4.out.rowi rfl b4 rfl (by simp [Value.oneCell']) (by unfold maxLen; omega) (by omega) hw0 ?_
          intro v' y5 o5 gr5
          have g5 : Fr (fun q => some q = iv.ownBlock) y4 y5 := Fr.of_grown gr5
          have hcl4 := Nat.lt_of_lt_of_le hcl3 g4.size
          have hnc : ¬ some cb = iv.ownBlock := own_not HK4.out.rowi HK4.out.head (by decide)
          have hS5 : (fun W : World => W.cell? ⟨cb, 7, none⟩ = some iv) y5 := (g5.cb hcl4 hnc).trans hS4
          have HH5 := Lib.hid ((g5.block _ hcl4 hnc).trans HK4.out.head)
          have O5 := Lib.hid o5; clear o5
          refine hK.out _ _ (fun _ => hS5) ?_
          simp only [Act.put, List.setIfInBounds_toArray, List.set_cons_zero, List.set_cons_succ]
          repeat (refine seqF_read (v := ?_) (by rfl) (by rfl) hS5 ?_ ?_; rotate_left; (focus (intro W hS; (try dsimp only at hS); go_simp; try with_reducible rfl)); simp only [Act.put, List.setIfInBounds_toArray, List.set_cons_zero, List.set_cons_succ])
          refine seqF_eff (by rfl) (by rfl) fun K hK => ?_
          have hv1 : v'.oneCell' = true := by
            obtain ⟨-, h2 | ⟨gb, vc, cur', h2, -⟩⟩ := O5.out
            · rw [h2.1]; rfl
            · rw [h2]; rfl
          refine wp_store1 102 _ _ rfl (v := v') rfl rfl hv1 (by kernel_rfl) HH5.out (by simp [shelfC]) ?_
          intro y6 b6 g6 z6
          have B6 := Lib.hid b6; clear b6 z6
          refine hK.out _ _ (fun h => absurd rfl h) ?_
          refine seqF_nil ?_
          have hfin := HJ.out.image HDI.out g04 (HDM.out.keep g4) HMH.out g5 O5.out g6 B6.out
          have HFIN := Lib.hid hfin; clear hfin
          clear hK hS hS3 hS4 hS5 c7 g3 g4 g5 g6 gr5 hnc g04 hv1 b4 HH5 HK4 r0
          go_wp2_with fail
          have hn : gk + j = ni := HM.out
          go_roundg (gk - 1)
          case measure => omega
          case rel => exact ⟨j + 1, _, _, by omega, by go_num, HFIN.out⟩
        · have hjn : j = ni := by have := HM.out; omega
          have hki := HSL.out
          have hii := HSI.out
          clear hfw
          go_wp2_with fail
          go_ret
          exact ⟨cb, rfl, HJ.out.done HOK.out hki.symm (by omega), fr_below' HJ.out.fr⟩
end
end Go.Proofs.Ytmbkmfpnjpkakaa
