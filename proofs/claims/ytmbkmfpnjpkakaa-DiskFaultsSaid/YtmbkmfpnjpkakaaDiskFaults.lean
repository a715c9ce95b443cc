/- 'solventlaw16.DiskFaults' answers true for every input, and its arguments read as before; no condition. -/
import Derived.Test.YtmbkmfpnjpkakaaR3
namespace Go.Proofs.Ytmbkmfpnjpkakaa
open Go.ChangeShapes Go.WideShapes Go.ChangeAt Go.RowKit Go.Im Go.Dsk0

set_option maxRecDepth 100000 in
set_option maxHeartbeats 2000000 in
theorem diskFaults_main (n i j : Nat) (v : Value) (l : List DOp) (w : World) (hl : OpsAt w v l (fun b => b < w.heap.size)) (hn : n ≤ 40) (hll : l.length ≤ 200) (hi : i < n) (hj : j < n) :
    Calls Try.prog 8 #[.int .i64 n, v, .int .i64 i, .int .i64 j] w fun e w' => e = .returned (.bool true) ∧ Below w.heap.size w w' := by
  obtain ⟨a, c, rfl, -, hcells⟩ := hl
  have HC := Lib.hid hcells; clear hcells
  have i0 : (0 : Int) ≤ i := by omega
  have i1 : (i : Int) < n := by omega
  have j0 : (0 : Int) ≤ j := by omega
  have j1 : (j : Int) < n := by omega
  have i2 : ¬ (i : Int) < 0 := by omega
  have j2 : ¬ (j : Int) < 0 := by omega
  have n0 : (0 : Int) ≤ n := by omega
  have n1 : (n : Int) ≤ 40 := by omega
  have l1 : (l.length : Int) ≤ 200 := by omega
  go_enter Try.func8, Try.ntmps8
  go_wp2_with fail
  refine (few_yes n a l.length c w n0 n1 hll).mono ?_; rintro e w' ⟨rfl, rfl⟩
  go_wp2_with fail
  refine (new_calls n w).mono ?_; rintro e w1 ⟨g, bd0, bc, ba, rfl, d0, f1, hbd0, hbc, hba, hg⟩
  obtain ⟨bd, d1, hbl, hbe⟩ := d0.norm
  have hbd : w.heap.size ≤ bd := by rcases hbe with h | h <;> omega
  have D0 := Lib.hid d1; clear d0 d1
  go_wp2_with fail
  have hs1 := f1.size
  have FU := Lib.hid (foot_up hbd hbc hba)
  have hlnew : (new n).length = n := new_len (by omega)
  have HLN := Lib.hid hlnew; clear hlnew
  go_loopg [44] l.length (fun m t wr => ∃ k : Nat, m + k = l.length ∧ t = .int .i64 k ∧ DiskAt wr g bd bc ba (doAll (new n) (l.take k)) ∧ Fr (fun q => w.heap.size ≤ q) w wr ∧ w1.heap.size ≤ wr.heap.size)
  case atStart => exact ⟨0, rfl, rfl, D0.out, f1.mono (fun _ _ h => h.elim), Nat.le_refl _⟩
  case round =>
    obtain ⟨k, hm, rfl, hd, hfr, hsz⟩ := hrel
    have HM := Lib.hid hm; clear hm
    have HD := Lib.hid hd; clear hd
    by_cases hk : k < l.length
    · obtain ⟨o, ho⟩ : ∃ o, l[k]? = some o := ⟨_, List.getElem?_eq_getElem hk⟩
      obtain ⟨b, p, rfl, hb, _, hops⟩ := HC.out.resolve_left (fun e => by rw [e] at hk; simp at hk)
      obtain ⟨pv, hop⟩ := hops k o ho
      have HO := Lib.hid ho; clear ho
      have ho1 := hop.fr hfr (fun b hb hn h => by omega) hb hb
      have HP := Lib.hid ho1.picks
      have h1 := ho1.picks.one'
      obtain ⟨e0, e1, e2, e3, e4, e5, -⟩ := ho1
      clear hop hops
      go_wp2_with (first
        | (refine im_alloc_row rfl 48 rfl (zero48 _) ?_; intro w2 b2 f2 z2; have B2 := Lib.hid b2; clear b2; have Z2 := Lib.hid z2; clear z2)
        | (refine im_store_row rfl 48 _ _ rfl (vs := opC o pv) rfl rfl B2.out rfl info48 (opC_one o h1) ?_; intro w3 b3 f3 z3; obtain ⟨q0, q1, q2, q3, q4, q5⟩ := opC_cells b3; clear b3; have Z3 := Lib.hid z3; clear z3))
      clear q0 q1 q2 q3 q4 q5 e0 e1 e2 e3 e4 e5
      have hz2 := Z2.out
      have hz3 := Z3.out
      have g3 : Fr (fun q => w.heap.size ≤ q) wr w3 := (f2.mono (fun _ _ h => h.elim)).trans' f3 (fun _ _ h => h) (fun q hq h => by omega)
      have d3 := HD.out.fr (f2.trans' f3 (U := fun q => wr.heap.size ≤ q) (fun _ _ h => h.elim) (fun q hq h => by omega)) (by have := HD.out.glt; omega) (fun _ => by omega) (by have := HD.out.cache.lt; omega) (by have := HD.out.armed.lt; omega)
      have D3 := Lib.hid d3; clear d3
      have P3 := Lib.hid (HP.out.fr g3 (fun b hb hn h => by omega))
      refine (do_calls g bd bc ba _ w3 D3.out (by omega) o pv (P3.out.imp (fun b hb hn h => by have := FU.out b h; omega))).mono ?_
      rintro e w4 ⟨rfl, d4, f4⟩
      rw [← doAll_take HO.out] at d4
      have D4 := Lib.hid d4; clear d4
      have hw4 := f4.size
      go_wp2_with fail
      have hn : gk + k = l.length := HM.out
      go_roundg (gk - 1)
      case measure => omega
      case rel => exact ⟨k + 1, by omega, by go_num, D4.out, (hfr.trans' g3 (fun _ _ h => h) (fun _ _ h => h)).trans (f4.mono (fun q _ h => FU.out q h)), by omega⟩
    · have hkl : l.take k = l := List.take_of_length_le (by omega)
      obtain ⟨D, hDe⟩ : ∃ D, D = doAll (new n) l := ⟨_, rfl⟩
      have hd := HD.out
      rw [hkl, ← hDe] at hd
      have hDl : D.length = n := by rw [hDe, doAll_length]; exact HLN.out
      have HDL := Lib.hid hDl; clear hDl hDe
      clear HD
      have HD := Lib.hid hd; clear hd
      clear hkl
      have iD : i < D.length := by have := HDL.out; omega
      have jD : j < D.length := by have := HDL.out; omega
      go_wp2_with fail
      refine (rep_calls 120 wr).mono ?_; rintro e w2 ⟨rfl, f2⟩
      go_wp2_with fail
      refine (rep_calls 121 w2).mono ?_; rintro e w3 ⟨rfl, f3⟩
      have hz2 := f2.size
      have hz3 := f3.size
      have D3 := Lib.hid ((HD.out.keep f2).keep f3)
      have FN := Lib.hid (D3.out.lts' (by omega))
      have G3 := Lib.hid ((hfr.trans f2.none).trans f3.none)
      clear f2 f3 hfr
      go_wp2_with fail
      refine (contents_n g bd bc ba D w3 D3.out n HDL.out).mono ?_; rintro e w4 ⟨v0, rfl, r4, f4⟩
      have R4 := Lib.hid r4; clear r4
      have D4 := Lib.hid (D3.out.keep f4)
      have hz4 := f4.size
      have G4 := Lib.hid (G3.out.trans f4.none)
      clear f4
      go_wp2_with fail
      refine (lose_calls g bd bc ba D i w4 D4.out).mono ?_
      rw [lose_nat iD]
      rintro e w5 ⟨rfl, d5, f5⟩
      have D5 := Lib.hid d5; clear d5
      have R5 := Lib.hid (row_foot R4.out f5 FN.out)
      have hz5 := f5.size
      have G5 := Lib.hid (G4.out.trans (f5.mono fun q _ h => FU.out q h))
      clear f5
      go_wp2_with fail
      refine (write_calls g bd bc ba _ i (rps 120) w5 D5.out).mono ?_
      rw [show (rps 120).data.toList = rp 120 from rfl, write_lose iD rfl]
      rintro e w6 ⟨rfl, d6, f6⟩
      obtain ⟨E, hE⟩ : ∃ E, E = clr (arm D i (-1)) i := ⟨_, rfl⟩
      have hEc : conts E = conts D := by rw [hE, conts_clr, conts_arm]
      have hEl : E.length = n := by rw [hE, clr_length]; simpa [arm] using HDL.out
      simp only at d6
      rw [← hE] at d6
      clear hE
      have HEC := Lib.hid hEc; clear hEc
      have HEL := Lib.hid hEl; clear hEl
      have D6 := Lib.hid d6; clear d6
      have R6 := Lib.hid (row_foot R5.out f6 FN.out)
      have hz6 := f6.size
      have G6 := Lib.hid (G5.out.trans (f6.mono fun q _ h => FU.out q h))
      clear f6
      go_wp2_with fail
      refine (contents_n g bd bc ba E w6 D6.out n HEL.out).mono ?_; rintro e w7 ⟨v1, rfl, r7, f7⟩
      have R7 := Lib.hid (row_keep R6.out f7)
      have D7 := Lib.hid (D6.out.keep f7)
      have hz7 := f7.size
      have G7 := Lib.hid (G6.out.trans f7.none)
      clear f7
      rw [HEC.out] at r7
      have R7b := Lib.hid r7; clear r7
      go_wp2_with fail
      refine (equal_yes v0 v1 _ _ w7 R7.out R7b.out (by rw [conts_length, HDL.out]; omega) rfl).mono ?_; rintro e w8 ⟨rfl, f8⟩
      have R8 := Lib.hid (row_keep R7.out f8)
      have D8 := Lib.hid (D7.out.keep f8)
      have hz8 := f8.size
      have G8 := Lib.hid (G7.out.trans f8.none)
      clear f8
      have iE : i < E.length := by have := HEL.out; omega
      have jE : j < E.length := by have := HEL.out; omega
      go_wp2_with fail
      refine (misdirect_calls g bd bc ba E i j w8 D8.out).mono ?_
      rw [misdirect_nat iE jE]
      rintro e w9 ⟨rfl, d9, f9⟩
      have D9 := Lib.hid d9; clear d9
      have R9 := Lib.hid (row_foot R8.out f9 FN.out)
      have hz9 := f9.size
      have G9 := Lib.hid (G8.out.trans (f9.mono fun q _ h => FU.out q h))
      clear f9
      go_wp2_with fail
      refine (write_calls g bd bc ba _ i (rps 120) w9 D9.out).mono ?_
      rw [show (rps 120).data.toList = rp 120 from rfl, Dsk0.write_wrong iE rfl]
      rintro e w10 ⟨rfl, d10, f10⟩
      obtain ⟨F, hF⟩ : ∃ F, F = setc (clr (arm E i j) i) j (rp 120) := ⟨_, rfl⟩
      have hFc : conts F = (conts D).set j (rp 120) := by rw [hF, conts_setc, conts_clr, conts_arm, HEC.out]
      have hFl : F.length = n := by rw [hF, setc_length, clr_length]; simpa [arm] using HEL.out
      have hFg : goal F i = i := by rw [hF, goal_setc, goal_clr]
      simp only at d10
      rw [← hF] at d10
      clear hF
      have HFC := Lib.hid hFc; clear hFc
      have HFL := Lib.hid hFl; clear hFl
      have HFG := Lib.hid hFg; clear hFg
      have D10 := Lib.hid d10; clear d10
      have R10 := row_foot R9.out f10 FN.out
      have hz10 := f10.size
      have G10 := Lib.hid (G9.out.trans (f10.mono fun q _ h => FU.out q h))
      clear f10
      obtain ⟨gb, vc, cur, rfl, hgb, hblk, hcur, hset⟩ := row_set R10 hj (rp 120)
      have HB10 := Lib.hid hblk; clear hblk
      have HS10 := Lib.hid hset; clear hset
      clear R10
      go_wp2_with (first
        | (refine im_store1 rfl 9 _ _ rfl (v := strOf (rp 120)) rfl rfl rfl (by kernel_rfl) HB10.out hcur ?_; intro w11 b11 f11 z11; have B11 := Lib.hid b11; clear b11; clear z11))
      have R11 := Lib.hid (HS10.out w11 B11.out)
      have hgbf := FN.out gb hgb
      have DN : ∀ q, q = gb → q ≠ g ∧ ¬ foot bd bc ba q := fun q hq => by subst hq; exact ⟨fun h => by have := D3.out.glt; omega, hgbf⟩
      have D11 := Lib.hid (D10.out.fr f11 (fun h => (DN _ h).1 rfl) (fun _ h => (DN _ h).2 (foot_d _ _ _)) (fun h => (DN _ h).2 (foot_c _ _ _)) (fun h => (DN _ h).2 (foot_a _ _ _)))
      have hz11 := f11.size
      have G11 := Lib.hid (G10.out.trans (f11.mono fun q _ h => by omega))
      clear f11 DN hgbf B11 HB10 HS10 hcur
      refine (contents_n g bd bc ba F w11 D11.out n HFL.out).mono ?_; rintro e w12 ⟨v2, rfl, r12, f12⟩
      have R12 := Lib.hid (row_keep R11.out f12)
      have D12 := Lib.hid (D11.out.keep f12)
      have hz12 := f12.size
      have G12 := Lib.hid (G11.out.trans f12.none)
      clear f12
      rw [HFC.out] at r12
      have R12b := Lib.hid r12; clear r12
      go_wp2_with fail
      refine (equal_yes _ v2 _ _ w12 R12.out R12b.out (by rw [List.length_set, conts_length, HDL.out]; omega) rfl).mono ?_; rintro e w13 ⟨rfl, f13⟩
      have R13 := Lib.hid (row_keep R12.out f13)
      have D13 := Lib.hid (D12.out.keep f13)
      have hz13 := f13.size
      have G13 := Lib.hid (G12.out.trans f13.none)
      clear f13
      have iF : i < F.length := by have := HFL.out; omega
      go_wp2_with fail
      refine (write_calls g bd bc ba _ i (rps 121) w13 D13.out).mono ?_
      rw [show (rps 121).data.toList = rp 121 from rfl, Dsk0.write_plain iF rfl HFG.out]
      rintro e w14 ⟨rfl, d14, f14⟩
      obtain ⟨M, hM⟩ : ∃ M, M = setc (clr F i) i (rp 121) := ⟨_, rfl⟩
      have hMc : conts M = ((conts D).set j (rp 120)).set i (rp 121) := by rw [hM, conts_setc, conts_clr, HFC.out]
      have hMl : M.length = n := by rw [hM, setc_length, clr_length]; exact HFL.out
      simp only at d14
      rw [← hM] at d14
      clear hM
      have HMC := Lib.hid hMc; clear hMc
      have HML := Lib.hid hMl; clear hMl
      have D14 := Lib.hid d14; clear d14
      have R14 := row_foot R13.out f14 FN.out
      have hz14 := f14.size
      have G14 := Lib.hid (G13.out.trans (f14.mono fun q _ h => FU.out q h))
      clear f14
      obtain ⟨gb', vc', cur', hv', hgb', hblk', hcur', hset'⟩ := row_set R14 hi (rp 121)
      injection hv' with hv1 _ hv3
      injection hv1 with hv1
      injection hv1 with hv1
      subst hv1; subst hv3
      have HB14 := Lib.hid hblk'; clear hblk'
      have HS14 := Lib.hid hset'; clear hset'
      clear R14
      go_wp2_with (first
        | (refine im_store1 rfl 9 _ _ rfl (v := strOf (rp 121)) rfl rfl rfl (by kernel_rfl) HB14.out hcur' ?_; intro w15 b15 f15 z15; have B15 := Lib.hid b15; clear b15; clear z15))
      have R15 := Lib.hid (HS14.out w15 B15.out)
      have hgbf := FN.out gb hgb
      have DN : ∀ q, q = gb → q ≠ g ∧ ¬ foot bd bc ba q := fun q hq => by subst hq; exact ⟨fun h => by have := D3.out.glt; omega, hgbf⟩
      have D15 := Lib.hid (D14.out.fr f15 (fun h => (DN _ h).1 rfl) (fun _ h => (DN _ h).2 (foot_d _ _ _)) (fun h => (DN _ h).2 (foot_c _ _ _)) (fun h => (DN _ h).2 (foot_a _ _ _)))
      have hz15 := f15.size
      have G15 := Lib.hid (G14.out.trans (f15.mono fun q _ h => by omega))
      clear f15 DN hgbf B15 HB14 HS14 hcur'
      refine (sanity_calls w15).mono ?_; rintro e w16 ⟨rfl, f16⟩
      have R16 := Lib.hid (row_keep R15.out f16)
      have D16 := Lib.hid (D15.out.keep f16)
      have hz16 := f16.size
      have G16 := Lib.hid (G15.out.trans f16.none)
      clear f16
      go_wp2_with fail
      refine (contents_n g bd bc ba M w16 D16.out n HML.out).mono ?_; rintro e w17 ⟨v3, rfl, r17, f17⟩
      have R17 := Lib.hid (row_keep R16.out f17)
      have G17 := Lib.hid (G16.out.trans f17.none)
      clear f17
      rw [HMC.out] at r17
      have R17b := Lib.hid r17; clear r17
      go_wp2_with fail
      refine (equal_yes _ v3 _ _ w17 R17.out R17b.out (by rw [List.length_set, List.length_set, conts_length, HDL.out]; omega) rfl).mono ?_; rintro e w18 ⟨rfl, f18⟩
      go_wp2_with fail
      go_ret
      exact ⟨rfl, fr_below (G17.out.trans f18.none)⟩

/-- The out-of-range inputs: the law only checks its examples. -/
theorem diskFaults_rest (n i j : Int) (v : Value) (l : List DOp) (w : World) (hl : OpsAt w v l (fun b => b < w.heap.size)) (h : ¬ (0 ≤ n ∧ n ≤ 40 ∧ l.length ≤ 200 ∧ 0 ≤ i ∧ i < n ∧ 0 ≤ j ∧ j < n)) :
    Calls Try.prog 8 #[.int .i64 n, v, .int .i64 i, .int .i64 j] w fun e w' => e = .returned (.bool true) ∧ Below w.heap.size w w' := by
  obtain ⟨a, c, rfl, -, -⟩ := hl
  have H := Lib.hid h; clear h
  by_cases hf : 0 ≤ n ∧ n ≤ 40 ∧ l.length ≤ 200
  · obtain ⟨h0, h1, h2⟩ := hf
    have hbad : (decide (i < 0) || (decide (n ≤ i) || (decide (j < 0) || decide (n ≤ j)))) = true := by
      have := H.out
      simp only [Bool.or_eq_true, decide_eq_true_eq]
      omega
    by_cases c1 : i < 0
    · clear hbad
      go_enter Try.func8, Try.ntmps8
      go_wp2_with fail
      refine (few_yes n a l.length c w h0 h1 h2).mono ?_; rintro e w' ⟨rfl, rfl⟩
      go_wp2_with fail
      refine (sanity_calls w).mono ?_; rintro e w1 ⟨rfl, f1⟩
      go_wp2_with fail
      go_ret
      exact ⟨rfl, f1.below⟩
    have c1' : 0 ≤ i := by omega
    by_cases c2 : n ≤ i
    · clear hbad
      go_enter Try.func8, Try.ntmps8
      go_wp2_with fail
      refine (few_yes n a l.length c w h0 h1 h2).mono ?_; rintro e w' ⟨rfl, rfl⟩
      go_wp2_with fail
      refine (sanity_calls w).mono ?_; rintro e w1 ⟨rfl, f1⟩
      go_wp2_with fail
      go_ret
      exact ⟨rfl, f1.below⟩
    by_cases c3 : j < 0
    · clear hbad
      go_enter Try.func8, Try.ntmps8
      go_wp2_with fail
      refine (few_yes n a l.length c w h0 h1 h2).mono ?_; rintro e w' ⟨rfl, rfl⟩
      go_wp2_with fail
      refine (sanity_calls w).mono ?_; rintro e w1 ⟨rfl, f1⟩
      go_wp2_with fail
      go_ret
      exact ⟨rfl, f1.below⟩
    have c3' : 0 ≤ j := by omega
    have c4 : n ≤ j := by have := H.out; omega
    clear hbad
    go_enter Try.func8, Try.ntmps8
    go_wp2_with fail
    refine (few_yes n a l.length c w h0 h1 h2).mono ?_; rintro e w' ⟨rfl, rfl⟩
    go_wp2_with fail
    refine (sanity_calls w).mono ?_; rintro e w1 ⟨rfl, f1⟩
    go_wp2_with fail
    go_ret
    exact ⟨rfl, f1.below⟩
  · clear H
    have HF := Lib.hid hf; clear hf
    go_enter Try.func8, Try.ntmps8
    go_wp2_with fail
    refine (few_no n a l.length c w HF.out).mono ?_; rintro e w' ⟨rfl, rfl⟩
    go_wp2_with fail
    refine (sanity_calls w).mono ?_; rintro e w1 ⟨rfl, f1⟩
    go_wp2_with fail
    go_ret
    exact ⟨rfl, f1.below⟩

theorem diskFaults_walk (n : Int) (v : Value) (l : List DOp) (i j : Int) (w : World) (hl : OpsAt w v l (fun b => b < w.heap.size)) :
    Calls Try.prog 8 #[.int .i64 n, v, .int .i64 i, .int .i64 j] w fun e w' => e = .returned (.bool true) ∧ Below w.heap.size w w' := by
  by_cases h : 0 ≤ n ∧ n ≤ 40 ∧ l.length ≤ 200 ∧ 0 ≤ i ∧ i < n ∧ 0 ≤ j ∧ j < n
  · obtain ⟨n, rfl⟩ : ∃ k : Nat, n = k := ⟨n.toNat, by omega⟩
    obtain ⟨i, rfl⟩ : ∃ k : Nat, i = k := ⟨i.toNat, by omega⟩
    obtain ⟨j, rfl⟩ : ∃ k : Nat, j = k := ⟨j.toNat, by omega⟩
    exact diskFaults_main n i j v l w hl (by omega) (by omega) (by omega) (by omega)
  · exact diskFaults_rest n i j v l w hl h

set_option maxRecDepth 100000 in
theorem diskFaults_lifted (os : Os) (started : os.Started) (H : Type) (enc : TypeId × Value → H) :
    ReturnsInHanded {} Try.checked os 8 .any (Rows.diskFaultsSpec.pre6 enc Try.prog Try.f8 Rows.diskFaultsRow.domain false) (Rows.diskFaultsSpec.post enc Try.prog Try.f8 false true false false) := by
  refine returnsInHanded_of_change (C := Try.checked) own started (by kernel_rfl) Try.func8
    (ChangeSpec.witness6 (enc := enc) (C := Try.checked) false ⟨#[], #[.int .i64 0, .slice none 0 0, .int .i64 0, .int .i64 0], []⟩ 8 (by kernel_rfl) (by kernel_rfl) (by kernel_rfl) (by kernel_rfl)) ?_
  intro W base args ds gs before hval0 hW hcnd _
  have hval : ∀ (j : Nat) t v, Try.f8.params[j]? = some t → args[j]? = some v → Value.okWide Try.prog W .any base t v := hval0
  have hW' := hW
  obtain ⟨p, q, hA0, hV, rfl, hfz, hnd⟩ := hW
  have hA : DataW.TrodAll enc Try.prog W 0 (fun _ => true) true Try.f8.params.toList args.toList ds p := hA0
  rw [Try.params8] at hA hval
  obtain ⟨v0, vs0, d0, ds0, p0, q0, hargs, rfl, rfl, h0, r0⟩ := trodAll_cons hA
  obtain ⟨v1, vs1, d1, ds1, p1, q1, rfl, rfl, rfl, h1, r1⟩ := trodAll_cons r0
  obtain ⟨v2, vs2, d2, ds2, p2, q2, rfl, rfl, rfl, h2, r2⟩ := trodAll_cons r1
  obtain ⟨v3, vs3, d3, ds3, p3, q3, rfl, rfl, rfl, h3, r3⟩ := trodAll_cons r2
  obtain ⟨rfl, rfl, rfl⟩ := trodAll_nil r3
  obtain rfl : args = #[v0, v1, v2, v3] := by cases args; simp_all
  obtain ⟨rfl, rfl⟩ := trodVars_none hV
  obtain ⟨a0, rfl, rfl, rfl, w0⟩ := open_int Try.underlying3 (hval 0 3 v0 rfl rfl) h0
  obtain ⟨b1, len1, cap1, rfl⟩ := okWide_slice Try.underlying39 (hval 1 39 v1 rfl rfl)
  obtain ⟨l1, hl1⟩ : ∃ l, OpsAt W (.slice b1 len1 cap1) l (fun b => b < W.heap.size) := by obtain ⟨fuel, hf⟩ := h1; exact ops_of_cells opTypes hf
  obtain ⟨a2, rfl, rfl, rfl, w2⟩ := open_int Try.underlying3 (hval 2 3 v2 rfl rfl) h2
  obtain ⟨a3, rfl, rfl, rfl, w3⟩ := open_int Try.underlying3 (hval 3 3 v3 rfl rfl) h3
  clear hA0 hval0
  refine (diskFaults_walk a0 _ l1 a2 a3 W hl1).mono fun e W' ⟨he, hb⟩ => ?_
  subst he
  exact ⟨_, rfl, law_post laidOut Try.underlying4 hW' rfl rfl (by kernel_rfl) ⟨rfl, rfl, rfl⟩ hb⟩

/-- The statement. -/
theorem diskFaults_proved : Rows.DiskFaultsSaid :=
  OpenClaim.holds_of_wide 8 Try.f8 rfl rfl rfl rfl rfl rfl rfl ⟨rfl, rfl, rfl, rfl, rfl⟩ rfl rfl rfl rfl rfl (by kernel_rfl) Try.func8 (by kernel_rfl)
    (of_decide_eq_true (by kernel_rfl)) (by unfold Func.isWrapper; first | (rw [if_pos (by decide +kernel)]; kernel_rfl) | (rw [if_neg (by decide +kernel)]; exact ⟨rfl, rfl⟩))
    (fun os started H enc _ => diskFaults_lifted os started H enc)
#print axioms diskFaults_proved
end Go.Proofs.Ytmbkmfpnjpkakaa
