/- The program's shelf: Read, FlushAll. -/
import Derived.Test.YtmbkmfpnjpkakaaS8
namespace Go.Shf0
theorem step_len (S : Shelf) (d : Int) (F : Dsk0.Dsk → Dsk0.Dsk) : (step S d F).2.bays.length = S.bays.length := by
  unfold step turnD
  split
  · rfl
  · split
    · split <;> simp
    · simp
theorem flush_len (S : Shelf) (d : Int) : (flush S d).2.bays.length = S.bays.length := by
  unfold flush
  split
  · rfl
  · exact step_len _ _ _
theorem flushFrom_succ (S : Shelf) (k n : Nat) : flushFrom S k (n + 1) = if state S k ≠ 1 then flushFrom S (k + 1) n else if (flush S k).1 ≠ 0 then flush S k else flushFrom (flush S k).2 (k + 1) n := rfl
theorem access_zero {S : Shelf} {d : Int} (h : access S d = 0) : S.off = false ∧ state S d = 1 := by
  unfold access at h
  split at h
  · simp at h
  · rename_i ho
    split at h
    · simp at h
    · rename_i hs
      exact ⟨by simpa using ho, by simpa using hs⟩
end Go.Shf0
namespace Go.Proofs.Ytmbkmfpnjpkakaa
open Go.RowKit Go.Im Go.Dsk0
section
variable {w : World} {O : Nat → Prop} {s : Nat} {S : Shf0.Shelf}

set_option maxRecDepth 100000 in
set_option maxHeartbeats 1000000 in
theorem sread_calls (h : ShelfAt w O s S) (p : Shf0.Place) : Calls Try.prog 52 #[.pointer (some ⟨s, 0, none⟩), placeV p] w fun e w' => e = .returned (.tuple #[.string ⟨(Shf0.read S p).1.toArray⟩, .int .i64 (Shf0.read S p).2]) ∧ Fr (fun _ => False) w w' := by
  have H := Lib.hid h
  obtain ⟨num, hnum⟩ : ∃ n, n = Shf0.number S p := ⟨_, rfl⟩
  obtain ⟨ac, hac⟩ : ∃ n, n = Shf0.access S p.disk := ⟨_, rfl⟩
  obtain ⟨R, hR⟩ : ∃ R, R = Shf0.read S p := ⟨_, rfl⟩
  have hR' : R = if Shf0.there S p then (if ac ≠ 0 then ([], ac) else Dsk0.read (Shf0.bayD S p.disk.toNat) num) else ([], 1) := by rw [hR, hnum, hac]; rfl
  rw [← hR]
  clear hR
  have hneg := Shf0.number_neg h.ok p
  rw [← hnum] at hneg
  obtain ⟨d, area, idx⟩ := p
  simp only at hac hR'
  have HNUM := Lib.hid hnum; clear hnum
  have HAC := Lib.hid hac; clear hac
  by_cases ht : Shf0.there S ⟨d, area, idx⟩
  · rw [if_pos ht] at hR'
    have hn0 : ¬ num < 0 := fun h => hneg.1 h ht
    have hdk := Shf0.there_disk ht
    simp only at hdk
    clear hneg ht
    by_cases ha : ac = 0
    · rw [if_neg (by simp [ha])] at hR'
      have hb : (ac != 0) = false := by simp [ha]
      clear ha
      obtain ⟨k, rfl⟩ : ∃ k : Nat, d = k := ⟨d.toNat, by omega⟩
      rw [Int.toNat_natCast] at hR'
      obtain ⟨bs, im, bv, iv, hin⟩ := h
      obtain ⟨hp1, hp2, hp3⟩ := hin.pos
      obtain ⟨vb, cap, cur, rfl, hvb, hcz, hOv, hcell⟩ := hin.open_
      have hk : k < bs.length := by omega
      obtain ⟨⟨L, b⟩, hx⟩ : ∃ x, bs[k]? = some x := ⟨_, List.getElem?_eq_getElem hk⟩
      obtain ⟨c0, c1⟩ := hcell k _ hx
      simp only at c0 c1
      rw [bayD_at hin hx] at hR'
      have hDK := Lib.hid (hin.kb _ (List.mem_of_getElem? hx))
      simp only at hR' hDK
      have HR := Lib.hid hR'; clear hR'
      have c6 : w.cell? ⟨s, 6, none⟩ = some (.slice (some ⟨vb, 0, none⟩) bs.length cap) := cell_of_blk hin.head
      have hslt := lt_of_blk hin.head
      have hvlt := lt_of_blk hvb
      have k0 : (0 : Int) ≤ k := by omega
      have k1 : (k : Int) < bs.length := by omega
      unfold Loc.ptr at c0
      clear hcell hin hx hvb hcz
      unfold placeV
      simp only
      go_enter Try.func52, Try.ntmps52
      go_wp2_with (first
        | (refine im_box rfl 25 _ rfl rfl ?_; intro w1 b1 f1 z1; have Z1 := Lib.hid z1; clear z1; obtain ⟨p0, p1, p2⟩ := plc_cells (p := ⟨(k : Int), area, idx⟩) b1; have hl1 := lt_of_blk b1; clear b1))
      refine (number_calls ⟨(k : Int), area, idx⟩ w1 (H.out.keep f1)).mono ?_; rintro e w2 ⟨rfl, f2⟩
      rw [← HNUM.out]
      have p0' := (f2.cb hl1 (fun h => h)).trans p0
      go_wp2_with fail
      refine (access_calls (H.out.keep (f1.trans f2)) (k : Int) hdk.1 hdk.2).mono ?_; rintro e w3 ⟨rfl, rfl⟩
      rw [← HAC.out]
      go_wp2_with fail
      have f12 := f1.trans f2
      have c6' := (f12.cb hslt (fun h => h)).trans c6
      have c0' := (f12.cb hvlt (fun h => h)).trans c0
      clear c6 c0 p0 p1 p2
      refine wp_region_seq (fun W => W.cell? ⟨s, 6, none⟩ = some (.slice (some ⟨vb, 0, none⟩) bs.length cap) ∧ W.cell? ⟨vb, k * 2, none⟩ = some (.pointer (some ⟨L.g, 0, none⟩)) ∧ W.cell? ⟨w.heap.size, 0, none⟩ = some (.int .i64 k)) [0, 1, 2, 3, 4, 5, 6, 7, 8, 9, 10, 11, 12, 13, 14] [10, 13, 14] (by kernel_rfl) (by kernel_rfl) (by kernel_rfl) ⟨c6', c0', p0'⟩ ?_
      simp only [pickOps, List.filterMap_cons, List.filterMap_nil, List.getElem?_toArray, List.getElem?_cons_zero, List.getElem?_cons_succ, Option.map_some]
      repeat (refine seqH_read (v := ?_) (by rfl) (by rfl) ?_ ?_; rotate_left; (focus (intro W hS; (try dsimp only at hS); obtain ⟨s1, s2, s3⟩ := hS; go_simp; try with_reducible rfl)); simp only [Act.put, List.setIfInBounds_toArray, List.set_cons_zero, List.set_cons_succ])
      refine seqH_eff (by rfl) (by rfl) fun K hK => ?_
      refine wp_callC 30 #[.pointer (some ⟨L.g, 0, none⟩), .int .i64 num] (by go_simp) (R := fun v w' => v = .tuple #[.string ⟨R.1.toArray⟩, .int .i64 R.2] ∧ Fr (fun _ => False) w2 w') ((read_calls L.g L.bd L.bc L.ba b.D num w2.drew ((hDK.out.keep f12).keep (Fr.refl _ w2).drew).disk).mono (by rintro e w' ⟨rfl, hf⟩; exact ⟨_, rfl, by rw [HR.out], hf.undrew⟩)) ?_
      rintro v w4 ⟨rfl, f4⟩
      refine hK.out _ _ ⟨(f4.cb (Nat.lt_of_lt_of_le hslt f12.size) (fun h => h)).trans c6', (f4.cb (Nat.lt_of_lt_of_le hvlt f12.size) (fun h => h)).trans c0', (f4.cb (Nat.lt_of_lt_of_le hl1 f2.size) (fun h => h)).trans p0'⟩ ?_
      simp only [Act.put, List.setIfInBounds_toArray, List.set_cons_zero, List.set_cons_succ]
      repeat (refine seqH_read (v := ?_) (by rfl) (by rfl) ?_ ?_; rotate_left; (focus (intro W hS; (try dsimp only at hS); obtain ⟨s1, s2, s3⟩ := hS; go_simp; try with_reducible rfl)); simp only [Act.put, List.setIfInBounds_toArray, List.set_cons_zero, List.set_cons_succ])
      have FF := Lib.hid (f12.trans f4)
      refine seqH_eff (by rfl) (by rfl) fun K hK => ?_
      unfold Oper.wp
      go_simp
      refine hK.out _ _ ⟨(f4.cb (Nat.lt_of_lt_of_le hslt f12.size) (fun h => h)).trans c6', (f4.cb (Nat.lt_of_lt_of_le hvlt f12.size) (fun h => h)).trans c0', (f4.cb (Nat.lt_of_lt_of_le hl1 f2.size) (fun h => h)).trans p0'⟩ ?_
      (try simp only [Act.put, List.setIfInBounds_toArray, List.set_cons_zero, List.set_cons_succ])
      refine seqH_eff (by rfl) (by rfl) fun K hK => ?_
      unfold Oper.wp
      go_simp
      refine hK.out _ _ ⟨(f4.cb (Nat.lt_of_lt_of_le hslt f12.size) (fun h => h)).trans c6', (f4.cb (Nat.lt_of_lt_of_le hvlt f12.size) (fun h => h)).trans c0', (f4.cb (Nat.lt_of_lt_of_le hl1 f2.size) (fun h => h)).trans p0'⟩ ?_
      refine seqH_nil ?_
      clear c6' c0' p0' f4 f12 f1 f2 HR hK
      go_wp2_with fail
      go_ret2
      exact ⟨rfl, FF.out⟩
    · rw [if_pos ha] at hR'
      subst hR'
      have hb : (ac != 0) = true := by simp [ha]
      clear ha h
      unfold placeV
      simp only
      go_enter Try.func52, Try.ntmps52
      go_wp2_with (first
        | (refine im_box rfl 25 _ rfl rfl ?_; intro w1 b1 f1 z1; have Z1 := Lib.hid z1; clear z1; obtain ⟨p0, p1, p2⟩ := plc_cells (p := ⟨d, area, idx⟩) b1; have hl1 := lt_of_blk b1; clear b1))
      refine (number_calls ⟨d, area, idx⟩ w1 (H.out.keep f1)).mono ?_; rintro e w2 ⟨rfl, f2⟩
      rw [← HNUM.out]
      have p0' := (f2.cb hl1 (fun h => h)).trans p0
      go_wp2_with fail
      refine (access_calls (H.out.keep (f1.trans f2)) d hdk.1 hdk.2).mono ?_; rintro e w3 ⟨rfl, rfl⟩
      rw [← HAC.out]
      go_wp2_with fail
      go_ret2
      exact ⟨rfl, f1.trans f2⟩
  · rw [if_neg ht] at hR'
    subst hR'
    have hn0 : num < 0 := hneg.2 ht
    clear hneg ht h
    unfold placeV
    simp only
    go_enter Try.func52, Try.ntmps52
    go_wp2_with (first
      | (refine im_box rfl 25 _ rfl rfl ?_; intro w1 b1 f1 z1; have Z1 := Lib.hid z1; clear z1; obtain ⟨p0, p1, p2⟩ := plc_cells (p := ⟨d, area, idx⟩) b1; have hl1 := lt_of_blk b1; clear b1))
    refine (number_calls ⟨d, area, idx⟩ w1 (H.out.keep f1)).mono ?_; rintro e w2 ⟨rfl, f2⟩
    rw [← HNUM.out]
    go_wp2_with fail
    go_ret2
    exact ⟨rfl, f1.trans f2⟩

theorem zero106 (w : World) : (zeroValue 106).run Try.prog w = .ok (.agg #[.pointer none, .int .i64 0]) w := by kernel_rfl
theorem info106 : (Try.prog.info? 106).map (·.size) = some 2 := by kernel_rfl
theorem bay_one (v : Value) (hv : v.oneCell' = true) (t : Int) : (#[v, .int .i64 t] : Array Value).all (·.oneCell') = true := by simp [hv]; rfl

set_option maxRecDepth 100000 in
set_option maxHeartbeats 1000000 in
theorem flushAll_calls (h : ShelfAt w O s S) : Calls Try.prog 51 #[.pointer (some ⟨s, 0, none⟩)] w fun e w' => e = .returned (.int .i64 (Shf0.flushAll S).1) ∧ ShelfAt w' O s (Shf0.flushAll S).2 ∧ Fr O w w' := by
  have H := Lib.hid h
  obtain ⟨R, hR⟩ : ∃ R, R = Shf0.flushAll S := ⟨_, rfl⟩
  have hR' : R = if S.off = true then (14, S) else Shf0.flushFrom S 0 S.bays.length := by rw [hR]; rfl
  rw [← hR]
  clear hR
  obtain ⟨bs, im, bv, iv, hin⟩ := h
  obtain ⟨hp1, hp2, hp3⟩ := hin.pos
  obtain ⟨vb, cap, cur, rfl, hvb, hcz, hOv, hcell⟩ := hin.open_
  have c6 : w.cell? ⟨s, 6, none⟩ = some (.slice (some ⟨vb, 0, none⟩) bs.length cap) := cell_of_blk hin.head
  have c8 : w.cell? ⟨s, 8, none⟩ = some (.bool S.off) := cell_of_blk hin.head
  have hOlt := Lib.hid (show ∀ q, O q → q < w.heap.size from fun q hq => hin.olt q hq)
  clear hcell hin hvb hcz
  cases hoff : S.off with
  | true =>
    rw [if_pos hoff] at hR'
    rw [hoff] at c8
    subst hR'
    go_enter Try.func51, Try.ntmps51
    go_wp2_with fail
    go_ret
    exact ⟨rfl, H.out, Fr.refl _ _⟩
  | false =>
    rw [if_neg (by rw [hoff]; simp)] at hR'
    rw [hoff] at c8
    rw [← hp3] at hR'
    have HR := Lib.hid hR'; clear hR' hoff
    have hlb : S.bays.length = bs.length := hp3.symm
    have HLB := Lib.hid hlb; clear hlb
    clear hp3
    go_enter Try.func51, Try.ntmps51
    go_wp2_with fail
    go_loopg [15] bs.length (fun m t wr => ∃ (k : Nat) (T : Shf0.Shelf), m + k = bs.length ∧ t = .int .i64 k ∧ ShelfAt wr O s T ∧ T.bays.length = bs.length ∧ wr.cell? ⟨s, 6, none⟩ = some (.slice (some ⟨vb, 0, none⟩) bs.length cap) ∧ R = Shf0.flushFrom T k m ∧ Fr O w wr)
    case atStart => exact ⟨0, S, rfl, rfl, H.out, HLB.out, c6, HR.out, Fr.refl _ _⟩
    case round =>
      obtain ⟨k, T, hm, rfl, hT, hTl, c6r, hRT, hfr⟩ := hrel
      have HM := Lib.hid hm; clear hm
      have HT := Lib.hid hT
      have HRT := Lib.hid hRT; clear hRT
      have HTL := Lib.hid hTl; clear hTl
      have hrs := hfr.size
      by_cases hk : k < bs.length
      · obtain ⟨bs', im', bv', iv', hin⟩ := hT
        obtain ⟨gk', hgk⟩ : ∃ j, gk = j + 1 := ⟨gk - 1, by have := HM.out; omega⟩
        have hbl : bs'.length = bs.length := by rw [hin.pos.2.2]; exact HTL.out
        have hbv : bv' = .slice (some ⟨vb, 0, none⟩) bs.length cap := by
          have e1 : wr.cell? ⟨s, 6, none⟩ = some bv' := cell_of_blk hin.head
          rw [c6r] at e1; exact (Option.some.inj e1).symm
        obtain ⟨vb2, cap2, cur2, hbv2, hvb2, hcz2, hOv2, hcell⟩ := hin.open_
        have hve : vb2 = vb := by
          rw [hbv] at hbv2
          injection hbv2 with e1
          injection e1 with e1
          injection e1 with e1
          exact e1.symm
        subst hve
        clear hbv2
        obtain ⟨⟨L, b⟩, hx⟩ : ∃ x, bs'[k]? = some x := ⟨_, List.getElem?_eq_getElem (by omega)⟩
        obtain ⟨q0, q1⟩ := hcell k _ hx
        simp only at q0 q1
        have hst : Shf0.state T k = b.st := state_at hin hx
        have hsub : R = if b.st ≠ 1 then Shf0.flushFrom T (k + 1) gk' else if (Shf0.flush T k).1 ≠ 0 then Shf0.flush T k else Shf0.flushFrom (Shf0.flush T k).2 (k + 1) gk' := by
          rw [HRT.out, hgk, Shf0.flushFrom_succ, hst]
        have HSUB := Lib.hid hsub; clear hsub hst
        have k0 : (0 : Int) ≤ k := by omega
        have k1 : (k : Int) < bs.length := by omega
        clear hcell hx hvb2 hcz2 hin hbv hbl
        have HGK := Lib.hid hgk; clear hgk
        obtain ⟨bst, hbst⟩ : ∃ bst, bst = b.st := ⟨_, rfl⟩
        rw [← hbst] at q1 HSUB
        clear hbst
        by_cases h1 : bst = 1
        · have hb1 : (bst != 1) = false := by simp [h1]
          have hR2 : R = if (Shf0.flush T k).1 ≠ 0 then Shf0.flush T k else Shf0.flushFrom (Shf0.flush T k).2 (k + 1) gk' := by rw [HSUB.out, if_neg (by simp [h1])]
          have HR2 := Lib.hid hR2; clear hR2 h1 HSUB
          go_wp2_with (first
            | (refine im_alloc_row rfl 106 rfl (zero106 _) ?_; intro w3 b3 f3 z3; have B3 := Lib.hid b3; clear b3; have Z3 := Lib.hid z3; clear z3)
            | (refine im_store_row rfl 106 _ _ rfl (vs := #[L.ptr, .int .i64 bst]) rfl rfl B3.out rfl info106 (bay_one _ rfl _) ?_; intro w4 b4 f4 z4; have p1 : w4.cell? ⟨wr.heap.size, 1, none⟩ = some (.int .i64 bst) := cell_of_blk b4; clear b4; have Z4 := Lib.hid z4; clear z4))
          have hz3 := Z3.out
          have hz4 := Z4.out
          have ff : Fr (fun q => q = wr.heap.size) wr w4 := f3.no.trans f4
          have hno : ∀ q, O q → ¬ q = wr.heap.size := fun q hq e => by have := HT.out.olt hq; omega
          have hslt : s < wr.heap.size := World.block_lt_of_cell? wr ⟨s, 6, none⟩ c6r
          have c64 := (ff.cb hslt (by omega)).trans c6r
          have FF := Lib.hid (hfr.trans' ff (U := fun q => O q ∨ q = wr.heap.size) (fun _ _ h => .inl h) (fun _ _ h => .inr h))
          refine (sflush_calls (HT.out.fr ff hno) (k : Int)).mono ?_; rintro e w5 ⟨rfl, s5, f5, b5⟩
          have S5 := Lib.hid s5; clear s5
          have c65 := b5.trans c64
          have hfin : Fr O w w5 := (hfr.trans' ff (U := fun q => q = wr.heap.size ∨ O q) (fun _ _ h => .inr h) (fun _ _ h => .inl h)).trans' f5 (fun i hi h => h.elim (fun h => by omega) id) (fun _ _ h => h)
          have HFIN := Lib.hid hfin
          have hlen5 : (Shf0.flush T k).2.bays.length = bs.length := by rw [Shf0.flush_len]; exact HTL.out
          have HL5 := Lib.hid hlen5
          clear hfin hlen5 f3 f4 ff hno f5 b5 c64 p1 q0 q1 c6r
          obtain ⟨er, her⟩ : ∃ er, er = (Shf0.flush T k).1 := ⟨_, rfl⟩
          rw [← her]
          by_cases he : er = 0
          · have hb2 : (er != 0) = false := by simp [he]
            have hR3 : R = Shf0.flushFrom (Shf0.flush T k).2 (k + 1) gk' := by rw [HR2.out, if_neg (by rw [← her]; simp [he])]
            have HR3 := Lib.hid hR3; clear hR3 he her
            go_wp2_with fail
            have hn : gk + k = bs.length := HM.out
            have hgk := HGK.out
            go_roundg (gk - 1)
            case measure => omega
            case rel => exact ⟨k + 1, _, by omega, by go_num, S5.out, HL5.out, c65, by rw [show gk - 1 = gk' by omega]; exact HR3.out, HFIN.out⟩
          · have hb2 : (er != 0) = true := by simp [he]
            have hR3 : R = Shf0.flush T k := by rw [HR2.out, if_pos (by rw [← her]; exact he)]
            have hR4 : R.1 = er := by rw [hR3, her]
            have HR4 := Lib.hid hR4
            have HR3 := Lib.hid hR3; clear hR3 he her hR4
            go_wp2_with fail
            go_ret
            exact ⟨by rw [HR4.out]; rfl, by rw [HR3.out]; exact S5.out, HFIN.out⟩
        · have hb1 : (bst != 1) = true := by simp [h1]
          have hR2 : R = Shf0.flushFrom T (k + 1) gk' := by rw [HSUB.out, if_pos h1]
          have HR2 := Lib.hid hR2; clear hR2 h1 HSUB
          go_wp2_with (first
            | (refine im_alloc_row rfl 106 rfl (zero106 _) ?_; intro w3 b3 f3 z3; have B3 := Lib.hid b3; clear b3; have Z3 := Lib.hid z3; clear z3)
            | (refine im_store_row rfl 106 _ _ rfl (vs := #[L.ptr, .int .i64 bst]) rfl rfl B3.out rfl info106 (bay_one _ rfl _) ?_; intro w4 b4 f4 z4; have p1 : w4.cell? ⟨wr.heap.size, 1, none⟩ = some (.int .i64 bst) := cell_of_blk b4; clear b4; have Z4 := Lib.hid z4; clear z4))
          have hz3 := Z3.out
          have hz4 := Z4.out
          have ff : Fr (fun q => q = wr.heap.size) wr w4 := f3.no.trans f4
          have hno : ∀ q, O q → ¬ q = wr.heap.size := fun q hq e => by have := HT.out.olt hq; omega
          have hslt : s < wr.heap.size := World.block_lt_of_cell? wr ⟨s, 6, none⟩ c6r
          have hn : gk + k = bs.length := HM.out
          have hgk := HGK.out
          have hfin : Fr O w w4 := (hfr.trans' ff (U := fun q => q = wr.heap.size ∨ O q) (fun _ _ h => .inr h) (fun _ _ h => .inl h)).trans' (Fr.refl (fun _ => False) w4) (fun i hi h => h.elim (fun h => by omega) id) (fun _ _ h => h.elim)
          go_roundg (gk - 1)
          case measure => omega
          case rel => exact ⟨k + 1, T, by omega, by go_num, HT.out.fr ff hno, HTL.out, (ff.cb hslt (by omega)).trans c6r, by rw [show gk - 1 = gk' by omega]; exact HR2.out, hfin⟩
      · have hkn : k = bs.length := by have := HM.out; omega
        have hg0 : gk = 0 := by have := HM.out; omega
        have hRe : R = (0, T) := by rw [HRT.out, hg0]; rfl
        subst hRe
        clear hT
        go_wp2_with fail
        go_ret
        exact ⟨rfl, HT.out, hfr⟩
end
end Go.Proofs.Ytmbkmfpnjpkakaa
