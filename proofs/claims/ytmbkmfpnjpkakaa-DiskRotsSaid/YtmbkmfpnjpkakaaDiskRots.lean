/- 'solventlaw16.DiskRots' answers true for every input, and its arguments read as before; no condition. -/
import Derived.Test.YtmbkmfpnjpkakaaR4
import Derived.Test.YtmbkmfpnjpkakaaA5
namespace Go.Proofs.Ytmbkmfpnjpkakaa
open Go.ChangeShapes Go.WideShapes Go.ChangeAt Go.RowKit Go.Im Go.Dsk0

set_option maxRecDepth 100000 in
set_option maxHeartbeats 2000000 in
theorem diskRots_main (n i j : Nat) (v : Value) (l : List DOp) (w : World) (hl : OpsAt w v l (fun b => b < w.heap.size)) (hn : n ≤ 40) (hll : l.length ≤ 200) (hi : i < n) (hj : j < 512) :
    Calls Try.prog 9 #[.int .i64 n, v, .int .i64 i, .int .i64 j] w fun e w' => e = .returned (.bool true) ∧ Below w.heap.size w w' := by
  obtain ⟨a, c, rfl, -, hcells⟩ := hl
  have HC := Lib.hid hcells; clear hcells
  have i0 : (0 : Int) ≤ i := by omega
  have i1 : (i : Int) < n := by omega
  have j0 : (0 : Int) ≤ j := by omega
  have j1 : (j : Int) < 512 := by omega
  have i2 : ¬ (i : Int) < 0 := by omega
  have j2 : ¬ (j : Int) < 0 := by omega
  have n0 : (0 : Int) ≤ n := by omega
  obtain ⟨q, hq⟩ : ∃ q, q = j / 8 := ⟨_, rfl⟩
  obtain ⟨r, hr⟩ : ∃ r, r = j % 8 := ⟨_, rfl⟩
  have hq1 : IntKind.i64.wrap ((j : Int) / 8) = (q : Int) := by rw [hq]; exact (IntWalk.i64_in _ (by omega)).trans (by omega)
  have hr1 : ((j : Int).tmod 8) = (r : Int) := by rw [hr, Int.tmod_eq_emod_of_nonneg (by omega)]; omega
  have q0 : (0 : Int) ≤ q := by omega
  have q1 : (q : Int) < 64 := by omega
  have r0 : (0 : Int) ≤ r := by omega
  have r1 : (r : Int) < 8 := by omega
  have R8 : r < 8 := by omega
  obtain ⟨m, hm8⟩ : ∃ m : UInt8, m = (1 : UInt8) <<< UInt8.ofNat r := ⟨_, rfl⟩
  have hsh : IntKind.u8.wrap ((2 : Int) ^ r) = (m.toNat : Int) := by
    have : r = 0 ∨ r = 1 ∨ r = 2 ∨ r = 3 ∨ r = 4 ∨ r = 5 ∨ r = 6 ∨ r = 7 := by omega
    rw [hm8]
    rcases this with h | h | h | h | h | h | h | h <;> rw [h] <;> rfl
  have Hm8 := Lib.hid hm8; clear hm8
  have Hq := Lib.hid hq; clear hq
  have Hr := Lib.hid hr; clear hr
  have n1 : (n : Int) ≤ 40 := by omega
  have l1 : (l.length : Int) ≤ 200 := by omega
  go_enter Try.func9, Try.ntmps9
  go_wp2_with fail
  refine (few_yes n a l.length c w n0 n1 hll).mono ?_; rintro e w' ⟨rfl, rfl⟩
  go_wp2_with fail
  refine (new_calls n w).mono ?_; rintro e w1 ⟨g, bd0, bc, ba, rfl, d0, f1, hbd0, hbc, hba, hg⟩
  obtain ⟨bd, d1, hbl, hbe⟩ := d0.norm
  have hbd : w.heap.size ≤ bd := by rcases hbe with h | h <;> omega
  have D0 := Lib.hid d1; clear d0 d1
  go_wp2_with fail
  have hs1 := f1.size
  have FU := Lib.hid (foot_up hbd hbc hba)
  have hlnew : (new n).length = n := new_len (by omega)
  have HLN := Lib.hid hlnew; clear hlnew
  go_loopg [43] l.length (fun m t wr => ∃ k : Nat, m + k = l.length ∧ t = .int .i64 k ∧ DiskAt wr g bd bc ba (doAll (new n) (l.take k)) ∧ Fr (fun q => w.heap.size ≤ q) w wr ∧ w1.heap.size ≤ wr.heap.size)
  case atStart => exact ⟨0, rfl, rfl, D0.out, f1.mono (fun _ _ h => h.elim), Nat.le_refl _⟩
  case round =>
    obtain ⟨k, hm, rfl, hd, hfr, hsz⟩ := hrel
    have HM := Lib.hid hm; clear hm
    have HD := Lib.hid hd; clear hd
    by_cases hk : k < l.length
    · obtain ⟨o, ho⟩ : ∃ o, l[k]? = some o := ⟨_, List.getElem?_eq_getElem hk⟩
      obtain ⟨b, p, rfl, hb, _, hops⟩ := HC.out.resolve_left (fun e => by rw [e] at hk; simp at hk)
      obtain ⟨pv, hop⟩ := hops k o ho
      have HO := Lib.hid ho; clear ho
      have ho1 := hop.fr hfr (fun b hb hn h => by omega) hb hb
      have HP := Lib.hid ho1.picks
      have h1 := ho1.picks.one'
      obtain ⟨e0, e1, e2, e3, e4, e5, -⟩ := ho1
      clear hop hops
      go_wp2_with (first
        | (refine im_alloc_row rfl 48 rfl (zero48 _) ?_; intro w2 b2 f2 z2; have B2 := Lib.hid b2; clear b2; have Z2 := Lib.hid z2; clear z2)
        | (refine im_store_row rfl 48 _ _ rfl (vs := opC o pv) rfl rfl B2.out rfl info48 (opC_one o h1) ?_; intro w3 b3 f3 z3; obtain ⟨q0, q1, q2, q3, q4, q5⟩ := opC_cells b3; clear b3; have Z3 := Lib.hid z3; clear z3))
      clear q0 q1 q2 q3 q4 q5 e0 e1 e2 e3 e4 e5
      have hz2 := Z2.out
      have hz3 := Z3.out
      have g3 : Fr (fun q => w.heap.size ≤ q) wr w3 := (f2.mono (fun _ _ h => h.elim)).trans' f3 (fun _ _ h => h) (fun q hq h => by omega)
      have d3 := HD.out.fr (f2.trans' f3 (U := fun q => wr.heap.size ≤ q) (fun _ _ h => h.elim) (fun q hq h => by omega)) (by have := HD.out.glt; omega) (fun _ => by omega) (by have := HD.out.cache.lt; omega) (by have := HD.out.armed.lt; omega)
      have D3 := Lib.hid d3; clear d3
      have P3 := Lib.hid (HP.out.fr g3 (fun b hb hn h => by omega))
      refine (do_calls g bd bc ba _ w3 D3.out (by omega) o pv (P3.out.imp (fun b hb hn h => by have := FU.out b h; omega))).mono ?_
      rintro e w4 ⟨rfl, d4, f4⟩
      rw [← doAll_take HO.out] at d4
      have D4 := Lib.hid d4; clear d4
      have hw4 := f4.size
      go_wp2_with fail
      have hn : gk + k = l.length := HM.out
      go_roundg (gk - 1)
      case measure => omega
      case rel => exact ⟨k + 1, by omega, by go_num, D4.out, (hfr.trans' g3 (fun _ _ h => h) (fun _ _ h => h)).trans (f4.mono (fun q _ h => FU.out q h)), by omega⟩
    · have hkl : l.take k = l := List.take_of_length_le (by omega)
      obtain ⟨D, hDe⟩ : ∃ D, D = doAll (new n) l := ⟨_, rfl⟩
      have hd := HD.out
      rw [hkl, ← hDe] at hd
      have hDl : D.length = n := by rw [hDe, doAll_length]; exact HLN.out
      have HDL := Lib.hid hDl; clear hDl hDe
      clear HD
      have HD := Lib.hid hd; clear hd
      clear hkl
      have iD : i < D.length := by have := HDL.out; omega
      obtain ⟨cc, hcc, hc64⟩ := conts_get (D := D) HD.out.ok iD
      have HCC := Lib.hid hcc; clear hcc
      have HC64 := Lib.hid hc64; clear hc64
      have FN := Lib.hid (HD.out.lts' (by omega))
      have G3 := Lib.hid hfr; clear hfr
      go_wp2_with fail
      refine (contents_n g bd bc ba D wr HD.out n HDL.out).mono ?_; rintro e w4 ⟨v0, rfl, r4, f4⟩
      have D4 := Lib.hid (HD.out.keep f4)
      have hz4 := f4.size
      have G4 := Lib.hid (G3.out.trans f4.none)
      clear f4
      obtain ⟨-, va, vc, hva, hvc⟩ := row_strs r4
      have hcn : (conts D).length = n := by rw [conts_length]; exact HDL.out
      rw [hcn] at hva
      subst hva
      obtain ⟨gb, rfl, hgb, hcells4⟩ := hvc.resolve_left (fun e => by rw [e] at hcn; simp at hcn; omega)
      obtain ⟨S, hS⟩ : ∃ S : ByteArray, S = ⟨cc.toArray⟩ := ⟨_, rfl⟩
      have co : w4.cell? ⟨gb, i, none⟩ = some (.string S) := by rw [hS]; exact hcells4 i cc HCC.out
      have hSs : S.size = 64 := by rw [hS]; exact HC64.out
      have HS := Lib.hid hS; clear hS
      clear hcells4 hvc hcn
      have R4 := Lib.hid r4; clear r4
      go_wp2_with fail
      refine (rot_calls g bd bc ba D i j w4 D4.out).mono ?_
      rw [rot_nat iD hj]
      rintro e w5 ⟨rfl, d5, f5⟩
      obtain ⟨E, hE⟩ : ∃ E, E = rotC (rotD D i j) i j := ⟨_, rfl⟩
      have hEc : conts E = (conts D).set i (flip cc j) := by rw [hE]; exact conts_rots HCC.out
      have hEl : E.length = n := by rw [hE, rots_length]; exact HDL.out
      simp only at d5
      rw [← hE] at d5
      clear hE
      have HEC := Lib.hid hEc; clear hEc
      have HEL := Lib.hid hEl; clear hEl
      have D5 := Lib.hid d5; clear d5
      have hgbb : wr.heap.size ≤ gb := row_block R4.out rfl
      have R5 := Lib.hid (row_foot R4.out f5 FN.out)
      have co5 := (f5.cb hgb (FN.out gb hgbb)).trans co
      have hz5 := f5.size
      have G5 := Lib.hid (G4.out.trans (f5.mono fun q _ h => FU.out q h))
      clear f5
      go_wp2_with (first
        | (refine im_bytes' rfl 9 70 _ rfl S rfl u9 u70 u5 ?_; intro w6 capb X fr b6 s6 x6 z6 cp6 f6 y6; have B6 := Lib.hid b6; clear b6; have X6 := Lib.hid x6; clear x6; have Z6 := Lib.hid z6; clear z6; have Y6 := Lib.hid y6; clear y6))
      have hzz6 := Y6.out
      have R6 := Lib.hid (row_keep R5.out f6)
      have D6 := Lib.hid (D5.out.keep f6)
      have G6 := Lib.hid (G5.out.trans f6.none)
      obtain ⟨x0, hx0⟩ : ∃ x0, cc[q]? = some x0 := ⟨_, List.getElem?_eq_getElem (by rw [HC64.out]; omega)⟩
      have hSl : S.data.toList = cc := by rw [HS.out]
      have hXq : X[q]? = some (B x0) := by rw [X6.out q (by rw [hSs]; omega), hSl, hx0]; rfl
      have HX0 := Lib.hid hx0; clear hx0
      have HSL := Lib.hid hSl; clear hSl
      have cx : w6.cell? ⟨w5.heap.size, q, none⟩ = some (B x0) := (cell_of_blk B6.out).trans hXq
      have fx : w6.frozen? ⟨w5.heap.size, q, none⟩ = false := Z6.out q (by rw [hSs]; omega)
      have hXs : q < X.size := (Array.getElem?_eq_some_iff.1 hXq).1
      clear hXq f6
      go_still_tail 10, (by kernel_rfl)
      refine still_by (by rfl) (yields_xor 5 5 _ _ rfl (u := x0) (v := m) rfl rfl w6.drew) ?_
      simp only [Act.put, List.setIfInBounds_toArray, List.set_cons_zero, List.set_cons_succ]
      repeat still_step
      refine wpStill_nil ?_
      change wpList _ _ _ _ _ w6.drew
      refine im_store_any rfl 5 _ _ rfl (v := B (x0 ^^^ m)) rfl rfl (B_one _) (by kernel_rfl) B6.out hXs fx ?_
      intro w7 b7 f7 z7
      clear z7
      have B7 := Lib.hid b7; clear b7
      replace f7 := f7.undrew
      have hz7 := f7.size
      have hgbw : gb < w5.heap.size := Nat.lt_of_lt_of_le hgb hz5
      have hnb : ¬ foot bd bc ba w5.heap.size := FN.out _ (by omega)
      have R7 := Lib.hid (row_fr1 R6.out f7 (by omega))
      have D7 := Lib.hid (D6.out.fr f7 (fun h => by have := D4.out.glt; omega) (fun _ h => hnb (by rw [← h]; exact foot_d _ _ _)) (fun h => hnb (by rw [← h]; exact foot_c _ _ _)) (fun h => hnb (by rw [← h]; exact foot_a _ _ _)))
      have G7 := Lib.hid (G6.out.trans (f7.mono fun q _ h => by omega))
      clear f7 cx fx hnb
      obtain ⟨i9, hi9, hz90, hz91, hz92⟩ := info_parts info9
      go_wp2_with (first
        | (at_builtin; refine im_append_row rfl _ _ 57 rfl w7.heap.size u57 hi9 hz90 hz91 hz92 rfl rfl (row_zero w7 w7.heap.size 9 (Nat.le_refl _)) rfl (row_fr1 R7.out ((Fr.refl (fun _ => False) w7).alloc _) (fun h => h)) (by omega) (by simp [strOf, Value.oneCell']) (by unfold maxLen; omega) (by omega) (by simp) ?_; intro v8 w8 r8 f8; rw [Nat.zero_add, List.nil_append] at r8; obtain ⟨gh, vh, curh, rfl, hgh, hblkh, hcurh, hseth⟩ := row_set r8 hi (flip cc j); clear r8; have HBh := Lib.hid hblkh; clear hblkh; have HSh := Lib.hid hseth; clear hseth;
            have B8 := Lib.hid ((f8.block w5.heap.size (by simp; have := lt_of_blk B7.out; omega) (by have := lt_of_blk B7.out; omega)).trans (((Fr.refl (fun _ => False) w7).alloc (.cells #[] 9)).block w5.heap.size (lt_of_blk B7.out) (fun h => h) |>.trans B7.out)))
        | (refine im_back rfl 70 9 _ rfl rfl u70 u5 u9 B8.out (l := flip cc j) (by rw [flip_length]; exact HC64.out) (fun k y hy => by
            rw [Hm8.out, Hq.out, Hr.out]
            exact flip_cells (by rw [← Hq.out]; exact HX0.out) (fun k hk => by rw [X6.out k (by rw [hSs, ← HC64.out]; exact hk), HSL.out]) k y hy) ?_)
        | (refine im_store1 rfl 9 _ _ rfl (v := strOf (flip cc j)) rfl rfl rfl (by kernel_rfl) HBh.out hcurh ?_; intro w9 b9 f9 z9; have B9 := Lib.hid b9; clear b9; clear z9))
      have R9 := Lib.hid (HSh.out w9 B9.out)
      have f79 : Fr (fun q => w7.heap.size ≤ q) w7 w9 := (((Fr.refl (fun q => w7.heap.size ≤ q) w7).alloc (.cells #[] 9)).trans f8).trans' f9 (fun _ _ h => h) (fun q _ h => by omega)
      clear f8 f9 hgh hcurh
      have hz9 := f79.size
      have hbd7 : bd < w7.heap.size := by omega
      have D9 := Lib.hid (D7.out.fr f79 (by have := D7.out.glt; omega) (fun _ => by omega) (by have := D7.out.cache.lt; omega) (by have := D7.out.armed.lt; omega))
      have O9 := Lib.hid (row_fr1 R7.out f79 (by omega))
      have G9 := Lib.hid (G7.out.trans (f79.mono fun q _ h => by omega))
      clear f79
      refine (contents_n g bd bc ba E w9 D9.out n HEL.out).mono ?_; rintro e w10 ⟨v1, rfl, r10, f10⟩
      rw [HEC.out] at r10
      have R10b := Lib.hid r10; clear r10
      have R10 := Lib.hid (row_keep R9.out f10)
      have O10 := Lib.hid (row_keep O9.out f10)
      have D10 := Lib.hid (D9.out.keep f10)
      have hz10 := f10.size
      have G10 := Lib.hid (G9.out.trans f10.none)
      clear f10
      go_wp2_with fail
      refine (equal_yes _ v1 _ _ w10 R10.out R10b.out (by rw [List.length_set, conts_length, HDL.out]; omega) rfl).mono ?_; rintro e w11 ⟨rfl, f11⟩
      have R11 := Lib.hid (row_keep R10.out f11)
      have O11 := Lib.hid (row_keep O10.out f11)
      have D11 := Lib.hid (D10.out.keep f11)
      have hz11 := f11.size
      have G11 := Lib.hid (G10.out.trans f11.none)
      clear f11
      go_wp2_with fail
      refine (flush_calls g bd bc ba E w11 D11.out).mono ?_; rintro e w12 ⟨rfl, d12, f12⟩
      obtain ⟨F, hF⟩ : ∃ F, F = flush E := ⟨_, rfl⟩
      have hFc : conts F = (conts D).set i (flip cc j) := by rw [hF, conts_flush, HEC.out]
      have hFl : F.length = n := by rw [hF]; simpa [flush] using HEL.out
      rw [← hF] at d12
      clear hF
      have HFC := Lib.hid hFc; clear hFc
      have HFL := Lib.hid hFl; clear hFl
      have D12 := Lib.hid d12; clear d12
      have R12 := Lib.hid (row_fr R11.out f12 (fun k hk _ => FN.out k (by omega)))
      have O12 := Lib.hid (row_foot O11.out f12 FN.out)
      have hz12 := f12.size
      have G12 := Lib.hid (G11.out.trans (f12.mono fun q _ h => FU.out q h))
      clear f12
      go_wp2_with fail
      refine (sanity_calls w12).mono ?_; rintro e w13 ⟨rfl, f13⟩
      have R13 := Lib.hid (row_keep R12.out f13)
      have O13 := Lib.hid (row_keep O12.out f13)
      have D13 := Lib.hid (D12.out.keep f13)
      have hz13 := f13.size
      have G13 := Lib.hid (G12.out.trans f13.none)
      clear f13
      go_wp2_with fail
      refine (contents_n g bd bc ba F w13 D13.out n HFL.out).mono ?_; rintro e w14 ⟨v2, rfl, r14, f14⟩
      rw [HFC.out] at r14
      have R14b := Lib.hid r14; clear r14
      have R14 := Lib.hid (row_keep R13.out f14)
      have O14 := Lib.hid (row_keep O13.out f14)
      have D14 := Lib.hid (D13.out.keep f14)
      have hz14 := f14.size
      have G14 := Lib.hid (G13.out.trans f14.none)
      clear f14
      go_wp2_with fail
      refine (equal_yes _ v2 _ _ w14 R14.out R14b.out (by rw [List.length_set, conts_length, HDL.out]; omega) rfl).mono ?_; rintro e w15 ⟨rfl, f15⟩
      have O15 := Lib.hid (row_keep O14.out f15)
      have D15 := Lib.hid (D14.out.keep f15)
      have hz15 := f15.size
      have G15 := Lib.hid (G14.out.trans f15.none)
      clear f15
      have iF : i < F.length := by have := HFL.out; omega
      go_wp2_with fail
      refine (rot_calls g bd bc ba F i j w15 D15.out).mono ?_
      rw [rot_nat iF hj]
      rintro e w16 ⟨rfl, d16, f16⟩
      obtain ⟨M, hM⟩ : ∃ M, M = rotC (rotD F i j) i j := ⟨_, rfl⟩
      have hMc : conts M = conts D := by
        have hci : i < (conts D).length := (List.getElem?_eq_some_iff.1 HCC.out).1
        rw [hM, conts_rots (c := flip cc j) (by rw [HFC.out, List.getElem?_set, if_pos rfl, if_pos hci]), HFC.out, List.set_set, Dsk0.flip_flip]
        apply List.ext_getElem?
        intro k
        rw [List.getElem?_set]
        split
        · rename_i hk; subst hk; exact HCC.out.symm
        · rfl
      have hMl : M.length = n := by rw [hM, rots_length]; exact HFL.out
      simp only at d16
      rw [← hM] at d16
      clear hM
      have HMC := Lib.hid hMc; clear hMc
      have HML := Lib.hid hMl; clear hMl
      have D16 := Lib.hid d16; clear d16
      have O16 := Lib.hid (row_foot O15.out f16 FN.out)
      have hz16 := f16.size
      have G16 := Lib.hid (G15.out.trans (f16.mono fun q _ h => FU.out q h))
      clear f16
      go_wp2_with fail
      refine (contents_n g bd bc ba M w16 D16.out n HML.out).mono ?_; rintro e w17 ⟨v3, rfl, r17, f17⟩
      rw [HMC.out] at r17
      have R17b := Lib.hid r17; clear r17
      have O17 := Lib.hid (row_keep O16.out f17)
      have G17 := Lib.hid (G16.out.trans f17.none)
      clear f17
      go_wp2_with fail
      refine (equal_yes _ v3 _ _ w17 O17.out R17b.out (by rw [conts_length, HDL.out]; omega) rfl).mono ?_; rintro e w18 ⟨rfl, f18⟩
      go_wp2_with fail
      go_ret
      exact ⟨rfl, fr_below (G17.out.trans f18.none)⟩

/-- The out-of-range inputs: the law only checks its examples. -/
theorem diskRots_rest (n i j : Int) (v : Value) (l : List DOp) (w : World) (hl : OpsAt w v l (fun b => b < w.heap.size)) (h : ¬ (0 ≤ n ∧ n ≤ 40 ∧ l.length ≤ 200 ∧ 0 ≤ i ∧ i < n ∧ 0 ≤ j ∧ j < 512)) :
    Calls Try.prog 9 #[.int .i64 n, v, .int .i64 i, .int .i64 j] w fun e w' => e = .returned (.bool true) ∧ Below w.heap.size w w' := by
  obtain ⟨a, c, rfl, -, -⟩ := hl
  have H := Lib.hid h; clear h
  by_cases hf : 0 ≤ n ∧ n ≤ 40 ∧ l.length ≤ 200
  · obtain ⟨h0, h1, h2⟩ := hf
    have hbad : (decide (i < 0) || (decide (n ≤ i) || (decide (j < 0) || decide (512 ≤ j)))) = true := by
      have := H.out
      simp only [Bool.or_eq_true, decide_eq_true_eq]
      omega
    by_cases c1 : i < 0
    · clear hbad
      go_enter Try.func9, Try.ntmps9
      go_wp2_with fail
      refine (few_yes n a l.length c w h0 h1 h2).mono ?_; rintro e w' ⟨rfl, rfl⟩
      go_wp2_with fail
      refine (sanity_calls w).mono ?_; rintro e w1 ⟨rfl, f1⟩
      go_wp2_with fail
      go_ret
      exact ⟨rfl, f1.below⟩
    have c1' : 0 ≤ i := by omega
    by_cases c2 : n ≤ i
    · clear hbad
      go_enter Try.func9, Try.ntmps9
      go_wp2_with fail
      refine (few_yes n a l.length c w h0 h1 h2).mono ?_; rintro e w' ⟨rfl, rfl⟩
      go_wp2_with fail
      refine (sanity_calls w).mono ?_; rintro e w1 ⟨rfl, f1⟩
      go_wp2_with fail
      go_ret
      exact ⟨rfl, f1.below⟩
    by_cases c3 : j < 0
    · clear hbad
      go_enter Try.func9, Try.ntmps9
      go_wp2_with fail
      refine (few_yes n a l.length c w h0 h1 h2).mono ?_; rintro e w' ⟨rfl, rfl⟩
      go_wp2_with fail
      refine (sanity_calls w).mono ?_; rintro e w1 ⟨rfl, f1⟩
      go_wp2_with fail
      go_ret
      exact ⟨rfl, f1.below⟩
    have c3' : 0 ≤ j := by omega
    have c4 : 512 ≤ j := by have := H.out; omega
    clear hbad
    go_enter Try.func9, Try.ntmps9
    go_wp2_with fail
    refine (few_yes n a l.length c w h0 h1 h2).mono ?_; rintro e w' ⟨rfl, rfl⟩
    go_wp2_with fail
    refine (sanity_calls w).mono ?_; rintro e w1 ⟨rfl, f1⟩
    go_wp2_with fail
    go_ret
    exact ⟨rfl, f1.below⟩
  · clear H
    have HF := Lib.hid hf; clear hf
    go_enter Try.func9, Try.ntmps9
    go_wp2_with fail
    refine (few_no n a l.length c w HF.out).mono ?_; rintro e w' ⟨rfl, rfl⟩
    go_wp2_with fail
    refine (sanity_calls w).mono ?_; rintro e w1 ⟨rfl, f1⟩
    go_wp2_with fail
    go_ret
    exact ⟨rfl, f1.below⟩

theorem diskRots_walk (n : Int) (v : Value) (l : List DOp) (i j : Int) (w : World) (hl : OpsAt w v l (fun b => b < w.heap.size)) :
    Calls Try.prog 9 #[.int .i64 n, v, .int .i64 i, .int .i64 j] w fun e w' => e = .returned (.bool true) ∧ Below w.heap.size w w' := by
  by_cases h : 0 ≤ n ∧ n ≤ 40 ∧ l.length ≤ 200 ∧ 0 ≤ i ∧ i < n ∧ 0 ≤ j ∧ j < 512
  · obtain ⟨n, rfl⟩ : ∃ k : Nat, n = k := ⟨n.toNat, by omega⟩
    obtain ⟨i, rfl⟩ : ∃ k : Nat, i = k := ⟨i.toNat, by omega⟩
    obtain ⟨j, rfl⟩ : ∃ k : Nat, j = k := ⟨j.toNat, by omega⟩
    exact diskRots_main n i j v l w hl (by omega) (by omega) (by omega) (by omega)
  · exact diskRots_rest n i j v l w hl h

set_option maxRecDepth 100000 in
theorem diskRots_lifted (os : Os) (started : os.Started) (H : Type) (enc : TypeId × Value → H) :
    ReturnsInHanded {} Try.checked os 9 .any (Rows.diskRotsSpec.pre6 enc Try.prog Try.f9 Rows.diskRotsRow.domain false) (Rows.diskRotsSpec.post enc Try.prog Try.f9 false true false false) := by
  refine returnsInHanded_of_change (C := Try.checked) own started (by kernel_rfl) Try.func9
    (ChangeSpec.witness6 (enc := enc) (C := Try.checked) false ⟨#[], #[.int .i64 0, .slice none 0 0, .int .i64 0, .int .i64 0], []⟩ 8 (by kernel_rfl) (by kernel_rfl) (by kernel_rfl) (by kernel_rfl)) ?_
  intro W base args ds gs before hval0 hW hcnd _
  have hval : ∀ (j : Nat) t v, Try.f9.params[j]? = some t → args[j]? = some v → Value.okWide Try.prog W .any base t v := hval0
  have hW' := hW
  obtain ⟨p, q, hA0, hV, rfl, hfz, hnd⟩ := hW
  have hA : DataW.TrodAll enc Try.prog W 0 (fun _ => true) true Try.f9.params.toList args.toList ds p := hA0
  rw [Try.params9] at hA hval
  obtain ⟨v0, vs0, d0, ds0, p0, q0, hargs, rfl, rfl, h0, r0⟩ := trodAll_cons hA
  obtain ⟨v1, vs1, d1, ds1, p1, q1, rfl, rfl, rfl, h1, r1⟩ := trodAll_cons r0
  obtain ⟨v2, vs2, d2, ds2, p2, q2, rfl, rfl, rfl, h2, r2⟩ := trodAll_cons r1
  obtain ⟨v3, vs3, d3, ds3, p3, q3, rfl, rfl, rfl, h3, r3⟩ := trodAll_cons r2
  obtain ⟨rfl, rfl, rfl⟩ := trodAll_nil r3
  obtain rfl : args = #[v0, v1, v2, v3] := by cases args; simp_all
  obtain ⟨rfl, rfl⟩ := trodVars_none hV
  obtain ⟨a0, rfl, rfl, rfl, w0⟩ := open_int Try.underlying3 (hval 0 3 v0 rfl rfl) h0
  obtain ⟨b1, len1, cap1, rfl⟩ := okWide_slice Try.underlying39 (hval 1 39 v1 rfl rfl)
  obtain ⟨l1, hl1⟩ : ∃ l, OpsAt W (.slice b1 len1 cap1) l (fun b => b < W.heap.size) := by obtain ⟨fuel, hf⟩ := h1; exact ops_of_cells opTypes hf
  obtain ⟨a2, rfl, rfl, rfl, w2⟩ := open_int Try.underlying3 (hval 2 3 v2 rfl rfl) h2
  obtain ⟨a3, rfl, rfl, rfl, w3⟩ := open_int Try.underlying3 (hval 3 3 v3 rfl rfl) h3
  clear hA0 hval0
  refine (diskRots_walk a0 _ l1 a2 a3 W hl1).mono fun e W' ⟨he, hb⟩ => ?_
  subst he
  exact ⟨_, rfl, law_post laidOut Try.underlying4 hW' rfl rfl (by kernel_rfl) ⟨rfl, rfl, rfl⟩ hb⟩

/-- The statement. -/
theorem diskRots_proved : Rows.DiskRotsSaid :=
  OpenClaim.holds_of_wide 9 Try.f9 rfl rfl rfl rfl rfl rfl rfl ⟨rfl, rfl, rfl, rfl, rfl⟩ rfl rfl rfl rfl rfl (by kernel_rfl) Try.func9 (by kernel_rfl)
    (of_decide_eq_true (by kernel_rfl)) (by unfold Func.isWrapper; first | (rw [if_pos (by decide +kernel)]; kernel_rfl) | (rw [if_neg (by decide +kernel)]; exact ⟨rfl, rfl⟩))
    (fun os started H enc _ => diskRots_lifted os started H enc)
#print axioms diskRots_proved
end Go.Proofs.Ytmbkmfpnjpkakaa
