/- 'solventlaw16.DiskLasts' answers true for every input, and its arguments read as before; no condition. -/
import Derived.Test.YtmbkmfpnjpkakaaR6
import Derived.Test.YtmbkmfpnjpkakaaR7
import Derived.Test.YtmbkmfpnjpkakaaL5
namespace Go.Proofs.Ytmbkmfpnjpkakaa
open Go.ChangeShapes Go.WideShapes Go.ChangeAt Go.RowKit Go.Im Go.Dsk0

/-- The map of the written sectors. -/
def wrF (W : Int → Bool) : Int → Option Value := fun k => if W k = true then some (.bool true) else none
theorem wrF_upd (W : Int → Bool) (i : Int) : wrF (updB W i) = upd (wrF W) i (some (.bool true)) := by
  funext k
  unfold wrF updB upd
  by_cases h : k = i <;> simp [h]
theorem wrF_start : wrF (fun _ => false) = fun _ => none := by funext k; simp [wrF]
theorem mt59 : Try.prog.underlying 59 = some (.map 3 4) := by kernel_rfl
theorem zero4 (w : World) : (zeroValue 4).run Try.prog w = .ok (.bool false) w := by kernel_rfl

set_option maxRecDepth 100000 in
set_option maxHeartbeats 3000000 in
theorem diskLasts_main (n : Nat) (v : Value) (l : List DOp) (v2 : Value) (l2 : List DOp) (vp : Value) (ps : List Int) (w : World) (hl : OpsAt w v l (fun b => b < w.heap.size)) (hl2 : OpsAt w v2 l2 (fun b => b < w.heap.size)) (hps : IntsAt w vp ps (fun b => b < w.heap.size)) (hn : n ≤ 40) (hll : l.length ≤ 200) (hll2 : l2.length ≤ 200) :
    Calls Try.prog 6 #[.int .i64 n, v, v2, vp] w fun e w' => e = .returned (.bool true) ∧ Below w.heap.size w w' := by
  obtain ⟨a, c, rfl, -, hcells⟩ := hl
  have HC := Lib.hid hcells; clear hcells
  obtain ⟨a2, cp2, rfl, -, hcells2⟩ := hl2
  have HC2 := Lib.hid hcells2; clear hcells2
  have HPS := Lib.hid hps; clear hps
  have n0 : (0 : Int) ≤ n := by omega
  have n1 : (n : Int) ≤ 40 := by omega
  have l1 : (l.length : Int) ≤ 200 := by omega
  have l21 : (l2.length : Int) ≤ 200 := by omega
  go_enter Try.func6, Try.ntmps6
  go_wp2_with fail
  refine (few_yes n a l.length c w n0 n1 hll).mono ?_; rintro e w' ⟨rfl, rfl⟩
  go_wp2_with fail
  refine (few_yes n a2 l2.length cp2 w n0 n1 hll2).mono ?_; rintro e w' ⟨rfl, rfl⟩
  go_wp2_with fail
  refine (new_calls n w).mono ?_; rintro e w1 ⟨g, bd0, bc, ba, rfl, d0, f1, hbd0, hbc, hba, hg⟩
  obtain ⟨bd, d1, hbl, hbe⟩ := d0.norm
  have hbd : w.heap.size ≤ bd := by rcases hbe with h | h <;> omega
  have D0 := Lib.hid d1; clear d0 d1
  go_wp2_with fail
  have hs1 := f1.size
  have FU := Lib.hid (foot_up hbd hbc hba)
  have hlnew : (new n).length = n := new_len (by omega)
  have HLN := Lib.hid hlnew; clear hlnew
  go_loopg [36] l.length (fun m t wr => ∃ k : Nat, m + k = l.length ∧ t = .int .i64 k ∧ DiskAt wr g bd bc ba (doAll (new n) (l.take k)) ∧ Fr (fun q => w.heap.size ≤ q) w wr ∧ w1.heap.size ≤ wr.heap.size)
  case atStart => exact ⟨0, rfl, rfl, D0.out, f1.mono (fun _ _ h => h.elim), Nat.le_refl _⟩
  case round =>
    obtain ⟨k, hm, rfl, hd, hfr, hsz⟩ := hrel
    have HM := Lib.hid hm; clear hm
    have HD := Lib.hid hd; clear hd
    by_cases hk : k < l.length
    · obtain ⟨o, ho⟩ : ∃ o, l[k]? = some o := ⟨_, List.getElem?_eq_getElem hk⟩
      obtain ⟨b, p, rfl, hb, _, hops⟩ := HC.out.resolve_left (fun e => by rw [e] at hk; simp at hk)
      obtain ⟨pv, hop⟩ := hops k o ho
      have HO := Lib.hid ho; clear ho
      have ho1 := hop.fr hfr (fun b hb hn h => by omega) hb hb
      have HP := Lib.hid ho1.picks
      have h1 := ho1.picks.one'
      obtain ⟨e0, e1, e2, e3, e4, e5, -⟩ := ho1
      clear hop hops
      go_wp2_with (first
        | (refine im_alloc_row rfl 48 rfl (zero48 _) ?_; intro w2 b2 f2 z2; have B2 := Lib.hid b2; clear b2; have Z2 := Lib.hid z2; clear z2)
        | (refine im_store_row rfl 48 _ _ rfl (vs := opC o pv) rfl rfl B2.out rfl info48 (opC_one o h1) ?_; intro w3 b3 f3 z3; obtain ⟨q0, q1, q2, q3, q4, q5⟩ := opC_cells b3; clear b3; have Z3 := Lib.hid z3; clear z3))
      clear q0 q1 q2 q3 q4 q5 e0 e1 e2 e3 e4 e5
      have hz2 := Z2.out
      have hz3 := Z3.out
      have g3 : Fr (fun q => w.heap.size ≤ q) wr w3 := (f2.mono (fun _ _ h => h.elim)).trans' f3 (fun _ _ h => h) (fun q hq h => by omega)
      have d3 := HD.out.fr (f2.trans' f3 (U := fun q => wr.heap.size ≤ q) (fun _ _ h => h.elim) (fun q hq h => by omega)) (by have := HD.out.glt; omega) (fun _ => by omega) (by have := HD.out.cache.lt; omega) (by have := HD.out.armed.lt; omega)
      have D3 := Lib.hid d3; clear d3
      have P3 := Lib.hid (HP.out.fr g3 (fun b hb hn h => by omega))
      refine (do_calls g bd bc ba _ w3 D3.out (by omega) o pv (P3.out.imp (fun b hb hn h => by have := FU.out b h; omega))).mono ?_
      rintro e w4 ⟨rfl, d4, f4⟩
      rw [← doAll_take HO.out] at d4
      have D4 := Lib.hid d4; clear d4
      have hw4 := f4.size
      go_wp2_with fail
      have hn : gk + k = l.length := HM.out
      go_roundg (gk - 1)
      case measure => omega
      case rel => exact ⟨k + 1, by omega, by go_num, D4.out, (hfr.trans' g3 (fun _ _ h => h) (fun _ _ h => h)).trans (f4.mono (fun q _ h => FU.out q h)), by omega⟩
    · have hkl : l.take k = l := List.take_of_length_le (by omega)
      obtain ⟨D, hDe⟩ : ∃ D, D = doAll (new n) l := ⟨_, rfl⟩
      have hd := HD.out
      rw [hkl, ← hDe] at hd
      have hDl : D.length = n := by rw [hDe, doAll_length]; exact HLN.out
      have HDL := Lib.hid hDl; clear hDl hDe
      clear HD
      have HD := Lib.hid hd; clear hd
      clear hkl
      clear HC
      have hgl : g < wr.heap.size := HD.out.glt
      have hcl : bc < wr.heap.size := HD.out.cache.lt
      have hal : ba < wr.heap.size := HD.out.armed.lt
      have hwr : w.heap.size ≤ wr.heap.size := by omega
      have hblN : bd < wr.heap.size := by omega
      have FL := Lib.hid (show ∀ q, foot bd bc ba q → w.heap.size ≤ q ∧ q < wr.heap.size from fun q h => by have := FU.out q h; unfold foot at h; omega)
      go_wp2_with fail
      refine (flush_calls g bd bc ba D wr HD.out).mono ?_; rintro e w2 ⟨rfl, d2, f2⟩
      have D2 := Lib.hid d2; clear d2
      have G2 := Lib.hid (hfr.trans (f2.mono fun q _ h => FU.out q h)); clear hfr
      have hz2 := f2.size
      clear f2
      go_wp2_with fail
      refine (cut_calls g bd bc ba (flush D) w2 D2.out (.slice none 0 0) [] ⟨none, 0, rfl, by simp, .inl rfl⟩).mono ?_; rintro e w3 ⟨rfl, d3, f3⟩
      obtain ⟨E, hE⟩ : ∃ E, E = cut (flush D) [] := ⟨_, rfl⟩
      rw [← hE] at d3
      have hEl : E.length = n := by rw [hE, cut_length]; simpa [flush] using HDL.out
      have hI := LInv.start hEl d3.ok (by rw [hE]; exact cut_cac _ _)
      have HEL := Lib.hid hEl; clear hEl hE
      have HI := Lib.hid (show LInv n (conts E) E (fun _ => false) from hI); clear hI
      have D3 := Lib.hid d3; clear d3
      have G3 := Lib.hid (G2.out.trans (f3.mono fun q _ h => FU.out q h))
      have hz3 := f3.size
      clear f3
      go_wp2_with fail
      refine (contents_n g bd bc ba E w3 D3.out n HEL.out).mono ?_; rintro e w4 ⟨v0, rfl, r4, f4⟩
      have R4 := Lib.hid r4; clear r4
      have D4 := Lib.hid (D3.out.keep f4)
      have G4 := Lib.hid (G3.out.trans f4.none)
      have hz4 := f4.size
      clear f4
      go_wp2_with (first
        | (refine im_makeMap rfl 59 rfl ?_; intro w5 b5 f5 z5; have B5 := Lib.hid b5; clear b5; have Z5 := Lib.hid z5; clear z5))
      have hz5 := Z5.out
      have D5 := Lib.hid (D4.out.keep f5)
      have R5 := Lib.hid (row_keep R4.out f5)
      have V0 := Lib.hid (show ∀ k, some k = v0.ownBlock → w3.heap.size ≤ k ∧ k < w4.heap.size from fun k hk => row_lt R4.out hk)
      have G5 := Lib.hid (G4.out.trans f5.none)
      clear f5
      have FM := Lib.hid (show ¬ foot bd bc ba w4.heap.size from fun h => by have := FL.out _ h; omega)
      obtain ⟨Old, hOld⟩ : ∃ Old, Old = conts E := ⟨_, rfl⟩
      rw [← hOld] at HI R5
      have hOl : Old.length = n := by rw [hOld, conts_length]; exact HEL.out
      have HOL := Lib.hid hOl; clear hOl hOld
      go_loopg [54] l2.length (fun m t wq => ∃ (k : Nat) (F : Dsk) (W : Int → Bool), m + k = l2.length ∧ t = .int .i64 k ∧ LInv n Old F W ∧ DiskAt wq g bd bc ba F ∧ At wq w4.heap.size (wrF W) ∧ wq.ownsRow w3.heap.size 9 1 v0 n (Old.map strOf) ∧ Fr (fun q => w.heap.size ≤ q) w wq ∧ w5.heap.size ≤ wq.heap.size)
      case atStart => exact ⟨0, _, _, rfl, rfl, HI.out, D5.out, by rw [wrF_start]; exact B5.out, R5.out, G5.out, Nat.le_refl _⟩
      case round =>
        obtain ⟨k2, F, W, hm2, rfl, hinv, hd, hat, hold, hfr2, hsz2⟩ := hrel
        have HM2 := Lib.hid hm2; clear hm2
        have HI2 := Lib.hid hinv; clear hinv
        have HD2 := Lib.hid hd; clear hd
        have HA2 := Lib.hid hat; clear hat
        have HR2 := Lib.hid hold; clear hold
        by_cases hk2 : k2 < l2.length
        · obtain ⟨o, ho⟩ : ∃ o, l2[k2]? = some o := ⟨_, List.getElem?_eq_getElem hk2⟩
          obtain ⟨b, p, rfl, hb, _, hops⟩ := HC2.out.resolve_left (fun e => by rw [e] at hk2; simp at hk2)
          obtain ⟨pv, hop⟩ := hops k2 o ho
          clear ho
          have ho1 := hop.fr hfr2 (fun b hb hn h => by omega) hb hb
          have HP := Lib.hid ho1.picks
          have h1 := ho1.picks.one'
          obtain ⟨e0, e1, e2, e3, e4, e5, -⟩ := ho1
          clear hop hops
          obtain ⟨kind, i, j, fill, size, picks⟩ := o
          simp only at e0 e1 e2 e3 e4 HP
          by_cases k1 : kind = 1
          · subst k1
            go_wp2_with (first
              | (refine im_alloc_row rfl 48 rfl (zero48 _) ?_; intro w6 b6 f6 z6; have B6 := Lib.hid b6; clear b6; have Z6 := Lib.hid z6; clear z6)
              | (refine im_store_row rfl 48 _ _ rfl (vs := opC ⟨1, i, j, fill, size, picks⟩ pv) rfl rfl B6.out rfl info48 (opC_one _ h1) ?_; intro w7 b7 f7 z7; obtain ⟨q0, q1, q2, q3, q4, q5⟩ := opC_cells b7; have B7 := Lib.hid b7; clear b7; have Z7 := Lib.hid z7; clear z7; simp only at q0 q1 q2 q3 q4 q5))
            clear q0 q1 q2 q3 q4 q5 e0 e1 e2 e3 e4 e5
            have hz6 := Z6.out
            have hz7 := Z7.out
            have g7 : Fr (fun q => wr.heap.size ≤ q) wr w7 := f6.trans' f7 (U := fun q => wr.heap.size ≤ q) (fun _ _ h => h.elim) (fun q hq h => by omega)
            clear f6 f7
            have D7 := Lib.hid (HD2.out.fr g7 (by omega) (fun _ => by omega) (by omega) (by omega))
            have A7 := Lib.hid (HA2.out.same (g7.block _ (by omega) (by omega)))
            have R7 := Lib.hid (row_frb HR2.out g7 (fun k hk => by have := V0.out k hk; omega))
            have P7 := Lib.hid (HP.out.fr (g7.mono (T := fun q => w.heap.size ≤ q) fun q _ h => by omega) (fun b hb hn h => by omega))
            have G7 := Lib.hid (hfr2.trans (g7.mono fun q _ h => by omega))
            clear g7 hfr2
            obtain ⟨T, hT⟩ : ∃ T, T = text ⟨1, i, j, fill, size, picks⟩ := ⟨_, rfl⟩
            have hdo : doOp F ⟨1, i, j, fill, size, picks⟩ = write F i T := by rw [hT]; unfold doOp; rw [if_pos rfl]
            clear hT
            refine (do_calls g bd bc ba F w7 D7.out (by omega) ⟨1, i, j, fill, size, picks⟩ pv (P7.out.imp (fun b hb hn h => by have := FU.out b h; omega))).mono ?_
            rw [hdo]
            clear hdo
            rintro e w8 ⟨rfl, d8, f8⟩
            have hz8 := f8.size
            have b8 := (f8.block _ (lt_of_blk B7.out) (fun h => by have := FL.out _ h; omega)).trans B7.out
            have A8 := Lib.hid (A7.out.same (f8.block _ (by omega) FM.out))
            have R8 := Lib.hid (row_frb R7.out f8 (fun k hk h => by have := V0.out k hk; have := FL.out _ h; omega))
            have G8 := Lib.hid (G7.out.trans (f8.mono fun q _ h => FU.out q h))
            obtain ⟨q0, q1, q2, q3, q4, q5⟩ := opC_cells b8
            clear b8
            simp only at q0 q1 q2 q3 q4 q5
            clear f8
            by_cases hgood : has F i = true ∧ T.length = 64
            · obtain ⟨hhas, h64⟩ := hgood
              have hi' := has_iff.1 hhas
              obtain ⟨i, rfl⟩ : ∃ k : Nat, i = k := ⟨i.toNat, by omega⟩
              have hin : i < n := by have := HI2.out.len; omega
              obtain ⟨hwe, hI8⟩ := HI2.out.write hin h64
              rw [hwe] at d8 ⊢
              clear hwe hhas hi' h64
              have I8 := Lib.hid hI8; clear hI8
              have D8 := Lib.hid d8; clear d8
              go_wp2_with (first
                | (at_mapUpdate; refine im_mapUpdate rfl _ _ _ 59 rfl mt59 kt i _ rfl rfl rfl A8.out ?_; intro w9 h9 f9 z9; have H9 := Lib.hid h9; clear h9; clear z9))
              clear q0 q1 q2 q3 q4 q5
              have D9 := D8.out.fr f9 (by omega) (fun _ h => FM.out (by rw [← h]; exact foot_d _ _ _)) (fun h => FM.out (by rw [← h]; exact foot_c _ _ _)) (fun h => FM.out (by rw [← h]; exact foot_a _ _ _))
              have R9 := row_frb R8.out f9 (fun k hk h => by have := V0.out k hk; omega)
              have hz9 := f9.size
              have hn : gk + k2 = l2.length := HM2.out
              go_roundg (gk - 1)
              case measure => omega
              case rel => exact ⟨k2 + 1, _, updB W i, by omega, by go_num, I8.out, D9, by rw [wrF_upd]; exact H9.out, R9, G8.out.trans (f9.mono fun q _ h => by omega), by omega⟩
            · have hw : write F i T = (1, F) := by unfold write; rw [if_neg hgood]
              rw [hw] at d8 ⊢
              clear hgood hw
              have D8 := Lib.hid d8; clear d8
              go_wp2_with fail
              clear q0 q1 q2 q3 q4 q5
              have hn : gk + k2 = l2.length := HM2.out
              go_roundg (gk - 1)
              case measure => omega
              case rel => exact ⟨k2 + 1, F, W, by omega, by go_num, HI2.out, D8.out, A8.out, R8.out, G8.out, by omega⟩
          · have hb1 : (kind == 1) = false := by simp [k1]
            clear k1
            go_wp2_with (first
              | (refine im_alloc_row rfl 48 rfl (zero48 _) ?_; intro w6 b6 f6 z6; have B6 := Lib.hid b6; clear b6; have Z6 := Lib.hid z6; clear z6)
              | (refine im_store_row rfl 48 _ _ rfl (vs := opC ⟨kind, i, j, fill, size, picks⟩ pv) rfl rfl B6.out rfl info48 (opC_one _ h1) ?_; intro w7 b7 f7 z7; obtain ⟨q0, q1, q2, q3, q4, q5⟩ := opC_cells b7; have B7 := Lib.hid b7; clear b7; have Z7 := Lib.hid z7; clear z7; simp only at q0 q1 q2 q3 q4 q5))
            clear q0 q1 q2 q3 q4 q5 e0 e1 e2 e3 e4 e5
            have hz6 := Z6.out
            have hz7 := Z7.out
            have g7 : Fr (fun q => wr.heap.size ≤ q) wr w7 := f6.trans' f7 (U := fun q => wr.heap.size ≤ q) (fun _ _ h => h.elim) (fun q hq h => by omega)
            clear f6 f7
            have D7 := HD2.out.fr g7 (by omega) (fun _ => by omega) (by omega) (by omega)
            have A7 := HA2.out.same (g7.block _ (by omega) (by omega))
            have R7 := row_frb HR2.out g7 (fun k hk => by have := V0.out k hk; omega)
            have hn : gk + k2 = l2.length := HM2.out
            go_roundg (gk - 1)
            case measure => omega
            case rel => exact ⟨k2 + 1, F, W, by omega, by go_num, HI2.out, D7, A7, R7, hfr2.trans (g7.mono fun q _ h => by omega), by omega⟩
        · go_wp2_with fail
          refine (contents_n g bd bc ba F wr HD2.out n HI2.out.len).mono ?_; rintro e w6 ⟨v1, rfl, r6, f6⟩
          have V1 := Lib.hid (show ∀ k, some k = v1.ownBlock → wr.heap.size ≤ k ∧ k < w6.heap.size from fun k hk => row_lt r6 hk)
          have R6 := Lib.hid r6; clear r6
          have D6 := Lib.hid (HD2.out.keep f6)
          have A6 := Lib.hid (HA2.out.same (f6.block _ (by omega) (fun h => h)))
          have O6 := Lib.hid (row_keep HR2.out f6)
          have G6 := Lib.hid (hfr2.trans f6.none)
          have hz6 := f6.size
          clear f6 hfr2 HD2 HA2 HR2
          have hvp : vp.oneCell' = true := HPS.out.one'
          go_wp2_with fail
          refine (cut_calls g bd bc ba F w6 D6.out vp ps ((HPS.out.fr G6.out (fun b hb hn h => by omega)).imp (fun b hb hn h => by have := FU.out b h; omega))).mono ?_; rintro e w7 ⟨rfl, d7, f7⟩
          obtain ⟨M, hM⟩ : ∃ M, M = cut F ps := ⟨_, rfl⟩
          rw [← hM] at d7
          have hMl : M.length = n := by rw [hM, cut_length]; exact HI2.out.len
          have hMp : pendI M = [] := by unfold pendI; rw [pend_nil (fun s hs => by rw [hM] at hs; exact (cut_cac F ps s hs).1)]; rfl
          have hEnd : ∀ i, i < n → ∃ s f o m, (conts M)[i]? = some s ∧ (conts F)[i]? = some f ∧ Old[i]? = some o ∧ s.length = 64 ∧ f.length = 64 ∧ o.length = 64 ∧ m ≤ 64 ∧ s = f.take m ++ o.drop m ∧ (W i = false → s = o) := fun i hi => by rw [hM]; exact HI2.out.end_ ps hi
          have HEnd := Lib.hid hEnd; clear hEnd
          have HMP := Lib.hid hMp; clear hMp
          have HML := Lib.hid hMl; clear hMl hM
          have D7 := Lib.hid d7; clear d7
          have A7 := Lib.hid (A6.out.same (f7.block _ (by omega) FM.out))
          have O7 := Lib.hid (row_frb O6.out f7 (fun k hk h => by have := V0.out k hk; have := FL.out _ h; omega))
          have R7 := Lib.hid (row_frb R6.out f7 (fun k hk h => by have := V1.out k hk; have := FL.out _ h; omega))
          have G7 := Lib.hid (G6.out.trans (f7.mono fun q _ h => FU.out q h))
          have hz7 := f7.size
          clear f7
          go_wp2_with fail
          refine (contents_n g bd bc ba M w7 D7.out n HML.out).mono ?_; rintro e w8 ⟨v3, rfl, r8, f8⟩
          have D8 := Lib.hid (D7.out.keep f8)
          have A8 := Lib.hid (A7.out.same (f8.block _ (by omega) (fun h => h)))
          have O8 := Lib.hid (row_keep O7.out f8)
          have R8 := Lib.hid (row_keep R7.out f8)
          have G8 := Lib.hid (G7.out.trans f8.none)
          have hz8 := f8.size
          clear f8
          obtain ⟨-, x3, y3, rfl, hc3⟩ := row_strs r8
          obtain ⟨-, x1, y1, rfl, hc1⟩ := row_strs R8.out
          obtain ⟨-, x0, y0, rfl, hc0⟩ := row_strs O8.out
          have hm3 : (conts M).length = n := by rw [conts_length]; exact HML.out
          have hm1 : (conts F).length = n := by rw [conts_length]; exact HI2.out.len
          have hm0 : Old.length = n := HOL.out
          rw [hm3, hm1, hm0]
          clear r8
          have H3 := Lib.hid hc3; clear hc3
          have H1 := Lib.hid hc1; clear hc1
          have H0 := Lib.hid hc0; clear hc0
          have HL3 := Lib.hid hm3; clear hm3
          have HL1 := Lib.hid hm1; clear hm1
          have HL0 := Lib.hid hm0; clear hm0
          go_wp2_with fail
          go_loopg [81] n (fun m t wq => ∃ k : Nat, m + k = n ∧ t = .int .i64 k ∧ Fr (fun _ => False) w8 wq)
          case atStart => exact ⟨0, rfl, rfl, Fr.refl _ _⟩
          case round =>
            obtain ⟨k3, hm3, rfl, hf⟩ := hrel
            have HM3 := Lib.hid hm3; clear hm3
            have HF := Lib.hid hf; clear hf
            by_cases hk3 : k3 < n
            · obtain ⟨s, f, o, m, hs, hf, ho, hs64, hf64, ho64, hm64, hmix, hW⟩ := HEnd.out k3 hk3
              obtain ⟨b3, rfl, hb3, hc3⟩ := H3.out.resolve_left (fun e => by have := HL3.out; rw [e] at this; simp at this; omega)
              obtain ⟨b1, rfl, hb1, hc1⟩ := H1.out.resolve_left (fun e => by have := HL1.out; rw [e] at this; simp at this; omega)
              obtain ⟨b0, rfl, hb0, hc0⟩ := H0.out.resolve_left (fun e => by have := HL0.out; rw [e] at this; simp at this; omega)
              obtain ⟨S, hS⟩ : ∃ S : ByteArray, S = ⟨s.toArray⟩ := ⟨_, rfl⟩
              obtain ⟨X, hX⟩ : ∃ X : ByteArray, X = ⟨f.toArray⟩ := ⟨_, rfl⟩
              obtain ⟨O, hO⟩ : ∃ O : ByteArray, O = ⟨o.toArray⟩ := ⟨_, rfl⟩
              have c3 : wr.cell? ⟨b3, k3, none⟩ = some (.string S) := by rw [hS]; exact (HF.out.cb hb3 (fun h => h)).trans (hc3 k3 s hs)
              have c1 : wr.cell? ⟨b1, k3, none⟩ = some (.string X) := by rw [hX]; exact (HF.out.cb hb1 (fun h => h)).trans (hc1 k3 f hf)
              have c0 : wr.cell? ⟨b0, k3, none⟩ = some (.string O) := by rw [hO]; exact (HF.out.cb hb0 (fun h => h)).trans (hc0 k3 o ho)
              have a3 := A8.out.same (HF.out.block _ (by omega) (fun h => h))
              have zS : S.size = 64 := by rw [hS]; exact hs64
              have zX : X.size = 64 := by rw [hX]; exact hf64
              have zO : O.size = 64 := by rw [hO]; exact ho64
              have hmix' : S.data.toList = X.data.toList.take m ++ O.data.toList.drop m := by rw [hS, hX, hO]; exact hmix
              have hW' : W k3 = false → S = O := fun h => by rw [hS, hO, hW h]
              have HMX := Lib.hid hmix'; clear hmix'
              have HW := Lib.hid hW'; clear hW'
              have A3 := Lib.hid a3; clear a3
              clear hS hX hO hs hf ho hs64 hf64 ho64 hmix hW hc3 hc1 hc0
              go_wp2_with fail
              refine wp_region_seq (fun q => q.cell? ⟨b3, k3, none⟩ = some (.string S) ∧ q.cell? ⟨b1, k3, none⟩ = some (.string X) ∧ q.cell? ⟨b0, k3, none⟩ = some (.string O) ∧ At q w4.heap.size (wrF W)) [0, 1, 2, 3, 4, 5, 6, 7, 8, 9, 10, 11, 12, 13, 14, 15, 16, 17, 18, 19, 20, 21, 22, 23, 24, 25, 26, 27, 28, 29, 30, 31, 32, 33, 34, 35, 36, 37, 38, 39, 40, 41, 42, 43, 44, 45] [43, 44, 45] (by kernel_rfl) (by kernel_rfl) (by kernel_rfl) ⟨c3, c1, c0, A3.out.same rfl⟩ ?_
              have hI1 : ((64 : Int) != 64) = false := rfl
              cases hWk : W k3 with
              | true =>
                have hl : ((wrF W) k3).getD (.bool false) = .bool true := by unfold wrF; rw [hWk]; rfl
                have HLk := Lib.hid hl; clear hl
                clear hWk
                simp only [pickOps, List.filterMap_cons, List.filterMap_nil, List.getElem?_toArray, List.getElem?_cons_zero, List.getElem?_cons_succ, Option.map_some]
                iterate 22 (refine seqH_read (v := ?_) (by rfl) (by rfl) ?_ ?_; rotate_left; (focus (intro q hS; (try dsimp only at hS); obtain ⟨s3, s1, s0, sA⟩ := hS; clear sA; go_simp; try with_reducible rfl)); simp only [Act.put, List.setIfInBounds_toArray, List.set_cons_zero, List.set_cons_succ])
                refine seqH_read (v := .bool true) (by rfl) (by rfl) (fun q hS => yields_lookup _ _ 59 rfl mt59 kt (zero4 q) k3 rfl rfl hS.2.2.2 _ HLk.out) ?_
                simp only [Act.put, List.setIfInBounds_toArray, List.set_cons_zero, List.set_cons_succ]
                iterate 2 (refine seqH_read (v := ?_) (by rfl) (by rfl) ?_ ?_; rotate_left; (focus (intro q hS; (try dsimp only at hS); obtain ⟨s3, s1, s0, sA⟩ := hS; clear sA; go_simp; try with_reducible rfl)); simp only [Act.put, List.setIfInBounds_toArray, List.set_cons_zero, List.set_cons_succ])
                iterate 6 (refine seqH_skip (by rfl) (by rfl) ?_; simp only [Act.put, List.setIfInBounds_toArray, List.set_cons_zero, List.set_cons_succ])
                iterate 12 (refine seqH_read (v := ?_) (by rfl) (by rfl) ?_ ?_; rotate_left; (focus (intro q hS; (try dsimp only at hS); obtain ⟨s3, s1, s0, sA⟩ := hS; clear sA; go_simp; try with_reducible rfl)); simp only [Act.put, List.setIfInBounds_toArray, List.set_cons_zero, List.set_cons_succ])
                refine seqH_eff (by rfl) (by rfl) fun K hK => ?_
                refine wp_callC 35 #[.string S, .string X, .string O] (by go_simp) (R := fun v w' => v = .bool true ∧ Fr (fun _ => False) wr.drew w') ((mixed_calls S X O m wr.drew zX zO hm64 HMX.out).mono (by rintro e w' ⟨rfl, hf⟩; exact ⟨_, rfl, rfl, hf⟩)) ?_
                rintro v w9 ⟨rfl, f9⟩
                replace f9 := f9.undrew
                have c3' := (f9.cb (Nat.lt_of_lt_of_le hb3 HF.out.size) (fun h => h)).trans c3
                have c1' := (f9.cb (Nat.lt_of_lt_of_le hb1 HF.out.size) (fun h => h)).trans c1
                have c0' := (f9.cb (Nat.lt_of_lt_of_le hb0 HF.out.size) (fun h => h)).trans c0
                have A9 := Lib.hid (A3.out.same (f9.block _ A3.out.lt (fun h => h)))
                refine hK.out _ _ ⟨c3', c1', c0', A9.out⟩ ?_
                simp only [Act.put, List.setIfInBounds_toArray, List.set_cons_zero, List.set_cons_succ]
                refine seqH_eff (by rfl) (by rfl) fun K hK => ?_
                unfold Oper.wp
                go_simp
                refine hK.out _ _ ⟨c3', c1', c0', A9.out⟩ ?_
                refine seqH_eff (by rfl) (by rfl) fun K hK => ?_
                unfold Oper.wp
                go_simp
                refine hK.out _ _ ⟨c3', c1', c0', A9.out⟩ ?_
                refine seqH_nil ?_
                have hf9 := HF.out.trans f9
                clear f9 c3 c1 c0 c3' c1' c0'
                go_wp2_with fail
                have hn : gk + k3 = n := HM3.out
                go_roundg (gk - 1)
                case measure => omega
                case rel => exact ⟨k3 + 1, by omega, by go_num, hf9⟩
              | false =>
                have hl : ((wrF W) k3).getD (.bool false) = .bool false := by unfold wrF; rw [hWk]; rfl
                have HLk := Lib.hid hl; clear hl
                have hSO := HW.out hWk
                clear hWk HW
                subst hSO
                simp only [pickOps, List.filterMap_cons, List.filterMap_nil, List.getElem?_toArray, List.getElem?_cons_zero, List.getElem?_cons_succ, Option.map_some]
                iterate 22 (refine seqH_read (v := ?_) (by rfl) (by rfl) ?_ ?_; rotate_left; (focus (intro q hS; (try dsimp only at hS); obtain ⟨s3, s1, s0, sA⟩ := hS; clear sA; go_simp; try with_reducible rfl)); simp only [Act.put, List.setIfInBounds_toArray, List.set_cons_zero, List.set_cons_succ])
                refine seqH_read (v := .bool false) (by rfl) (by rfl) (fun q hS => yields_lookup _ _ 59 rfl mt59 kt (zero4 q) k3 rfl rfl hS.2.2.2 _ HLk.out) ?_
                simp only [Act.put, List.setIfInBounds_toArray, List.set_cons_zero, List.set_cons_succ]
                iterate 20 (refine seqH_read (v := ?_) (by rfl) (by rfl) ?_ ?_; rotate_left; (focus (intro q hS; (try dsimp only at hS); obtain ⟨s3, s1, s0, sA⟩ := hS; clear sA; go_simp; try with_reducible rfl)); simp only [Act.put, List.setIfInBounds_toArray, List.set_cons_zero, List.set_cons_succ])
                refine seqH_eff (by rfl) (by rfl) fun K hK => ?_
                refine wp_callC 35 #[.string S, .string X, .string S] (by go_simp) (R := fun v w' => v = .bool true ∧ Fr (fun _ => False) wr.drew w') ((mixed_calls S X S m wr.drew zX zO hm64 HMX.out).mono (by rintro e w' ⟨rfl, hf⟩; exact ⟨_, rfl, rfl, hf⟩)) ?_
                rintro v w9 ⟨rfl, f9⟩
                replace f9 := f9.undrew
                have c3' := (f9.cb (Nat.lt_of_lt_of_le hb3 HF.out.size) (fun h => h)).trans c3
                have c1' := (f9.cb (Nat.lt_of_lt_of_le hb1 HF.out.size) (fun h => h)).trans c1
                have c0' := (f9.cb (Nat.lt_of_lt_of_le hb0 HF.out.size) (fun h => h)).trans c0
                have A9 := Lib.hid (A3.out.same (f9.block _ A3.out.lt (fun h => h)))
                refine hK.out _ _ ⟨c3', c1', c0', A9.out⟩ ?_
                simp only [Act.put, List.setIfInBounds_toArray, List.set_cons_zero, List.set_cons_succ]
                refine seqH_eff (by rfl) (by rfl) fun K hK => ?_
                unfold Oper.wp
                go_simp
                refine hK.out _ _ ⟨c3', c1', c0', A9.out⟩ ?_
                refine seqH_eff (by rfl) (by rfl) fun K hK => ?_
                unfold Oper.wp
                go_simp
                refine hK.out _ _ ⟨c3', c1', c0', A9.out⟩ ?_
                refine seqH_nil ?_
                have hf9 := HF.out.trans f9
                clear f9 c3 c1 c0 c3' c1' c0'
                go_wp2_with fail
                have hn : gk + k3 = n := HM3.out
                go_roundg (gk - 1)
                case measure => omega
                case rel => exact ⟨k3 + 1, by omega, by go_num, hf9⟩
            · have G9 := Lib.hid (G8.out.trans HF.out.none)
              have D9 := Lib.hid (D8.out.keep HF.out)
              go_wp2_with fail
              refine (sanity_calls _).mono ?_; rintro e w9 ⟨rfl, f9⟩
              have D10 := Lib.hid (D9.out.keep f9)
              have G10 := Lib.hid (G9.out.trans f9.none)
              clear f9
              go_wp2_with fail
              refine (pending_calls g bd bc ba M w9 D10.out).mono ?_; rintro e w10 ⟨v5, rfl, r10, f10⟩
              rw [HMP.out] at r10
              obtain ⟨-, h2 | ⟨gb, vc, cur, h2, -⟩⟩ := r10
              · obtain ⟨rfl, -⟩ := h2
                go_wp2_with fail
                go_ret
                exact ⟨rfl, fr_below (G10.out.trans f10.none)⟩
              · subst h2
                go_wp2_with fail
                go_ret
                exact ⟨rfl, fr_below (G10.out.trans f10.none)⟩

theorem diskLasts_walk (n : Int) (v : Value) (l : List DOp) (v2 : Value) (l2 : List DOp) (vp : Value) (ps : List Int) (w : World) (hl : OpsAt w v l (fun b => b < w.heap.size)) (hl2 : OpsAt w v2 l2 (fun b => b < w.heap.size)) (hps : IntsAt w vp ps (fun b => b < w.heap.size)) :
    Calls Try.prog 6 #[.int .i64 n, v, v2, vp] w fun e w' => e = .returned (.bool true) ∧ Below w.heap.size w w' := by
  by_cases h : 0 ≤ n ∧ n ≤ 40 ∧ l.length ≤ 200
  · by_cases h2 : l2.length ≤ 200
    · obtain ⟨n, rfl⟩ : ∃ k : Nat, n = k := ⟨n.toNat, by omega⟩
      exact diskLasts_main n v l v2 l2 vp ps w hl hl2 hps (by omega) (by omega) h2
    · obtain ⟨a, c, rfl, -, -⟩ := hl
      obtain ⟨a2, c2, rfl, -, -⟩ := hl2
      obtain ⟨h0, h1, h3⟩ := h
      have HF := Lib.hid (show ¬ (0 ≤ n ∧ n ≤ 40 ∧ l2.length ≤ 200) from fun h => h2 h.2.2); clear h2
      go_enter Try.func6, Try.ntmps6
      go_wp2_with fail
      refine (few_yes n a l.length c w h0 h1 h3).mono ?_; rintro e w' ⟨rfl, rfl⟩
      go_wp2_with fail
      refine (few_no n a2 l2.length c2 w HF.out).mono ?_; rintro e w' ⟨rfl, rfl⟩
      go_wp2_with fail
      refine (sanity_calls w).mono ?_; rintro e w1 ⟨rfl, f1⟩
      go_wp2_with fail
      go_ret
      exact ⟨rfl, f1.below⟩
  · obtain ⟨a, c, rfl, -, -⟩ := hl
    obtain ⟨a2, c2, rfl, -, -⟩ := hl2
    have HF := Lib.hid h; clear h
    go_enter Try.func6, Try.ntmps6
    go_wp2_with fail
    refine (few_no n a l.length c w HF.out).mono ?_; rintro e w' ⟨rfl, rfl⟩
    go_wp2_with fail
    refine (sanity_calls w).mono ?_; rintro e w1 ⟨rfl, f1⟩
    go_wp2_with fail
    go_ret
    exact ⟨rfl, f1.below⟩

set_option maxRecDepth 100000 in
theorem diskLasts_lifted (os : Os) (started : os.Started) (H : Type) (enc : TypeId × Value → H) :
    ReturnsInHanded {} Try.checked os 6 .any (Rows.diskLastsSpec.pre6 enc Try.prog Try.f6 Rows.diskLastsRow.domain false) (Rows.diskLastsSpec.post enc Try.prog Try.f6 false true false false) := by
  refine returnsInHanded_of_change (C := Try.checked) own started (by kernel_rfl) Try.func6
    (ChangeSpec.witness6 (enc := enc) (C := Try.checked) false ⟨#[], #[.int .i64 0, .slice none 0 0, .slice none 0 0, .slice none 0 0], []⟩ 8 (by kernel_rfl) (by kernel_rfl) (by kernel_rfl) (by kernel_rfl)) ?_
  intro W base args ds gs before hval0 hW hcnd _
  have hval : ∀ (j : Nat) t v, Try.f6.params[j]? = some t → args[j]? = some v → Value.okWide Try.prog W .any base t v := hval0
  have hW' := hW
  obtain ⟨p, q, hA0, hV, rfl, hfz, hnd⟩ := hW
  have hA : DataW.TrodAll enc Try.prog W 0 (fun _ => true) true Try.f6.params.toList args.toList ds p := hA0
  rw [Try.params6] at hA hval
  obtain ⟨v0, vs0, d0, ds0, p0, q0, hargs, rfl, rfl, h0, r0⟩ := trodAll_cons hA
  obtain ⟨v1, vs1, d1, ds1, p1, q1, rfl, rfl, rfl, h1, r1⟩ := trodAll_cons r0
  obtain ⟨v2, vs2, d2, ds2, p2, q2, rfl, rfl, rfl, h2, r2⟩ := trodAll_cons r1
  obtain ⟨v3, vs3, d3, ds3, p3, q3, rfl, rfl, rfl, h3, r3⟩ := trodAll_cons r2
  obtain ⟨rfl, rfl, rfl⟩ := trodAll_nil r3
  obtain rfl : args = #[v0, v1, v2, v3] := by cases args; simp_all
  obtain ⟨rfl, rfl⟩ := trodVars_none hV
  obtain ⟨a0, rfl, rfl, rfl, w0⟩ := open_int Try.underlying3 (hval 0 3 v0 rfl rfl) h0
  obtain ⟨b1, len1, cap1, rfl⟩ := okWide_slice Try.underlying39 (hval 1 39 v1 rfl rfl)
  obtain ⟨l1, hl1⟩ : ∃ l, OpsAt W (.slice b1 len1 cap1) l (fun b => b < W.heap.size) := by obtain ⟨fuel, hf⟩ := h1; exact ops_of_cells opTypes hf
  obtain ⟨b2, len2, cap2, rfl⟩ := okWide_slice Try.underlying39 (hval 2 39 v2 rfl rfl)
  obtain ⟨l2, hl2⟩ : ∃ l, OpsAt W (.slice b2 len2 cap2) l (fun b => b < W.heap.size) := by obtain ⟨fuel, hf⟩ := h2; exact ops_of_cells opTypes hf
  obtain ⟨b3, len3, cap3, rfl⟩ := okWide_slice Try.underlying46 (hval 3 46 v3 rfl rfl)
  obtain ⟨l3, hl3⟩ : ∃ l, IntsAt W (.slice b3 len3 cap3) l (fun b => b < W.heap.size) := by obtain ⟨fuel, hf⟩ := h3; exact ints_of_cells opTypes hf
  clear hA0 hval0
  refine (diskLasts_walk a0 _ l1 _ l2 _ l3 W hl1 hl2 hl3).mono fun e W' ⟨he, hb⟩ => ?_
  subst he
  exact ⟨_, rfl, law_post laidOut Try.underlying4 hW' rfl rfl (by kernel_rfl) ⟨rfl, rfl, rfl⟩ hb⟩

/-- The statement. -/
theorem diskLasts_proved : Rows.DiskLastsSaid :=
  OpenClaim.holds_of_wide 6 Try.f6 rfl rfl rfl rfl rfl rfl rfl ⟨rfl, rfl, rfl, rfl, rfl⟩ rfl rfl rfl rfl rfl (by kernel_rfl) Try.func6 (by kernel_rfl)
    (of_decide_eq_true (by kernel_rfl)) (by unfold Func.isWrapper; first | (rw [if_pos (by decide +kernel)]; kernel_rfl) | (rw [if_neg (by decide +kernel)]; exact ⟨rfl, rfl⟩))
    (fun os started H enc _ => diskLasts_lifted os started H enc)
#print axioms diskLasts_proved
end Go.Proofs.Ytmbkmfpnjpkakaa
