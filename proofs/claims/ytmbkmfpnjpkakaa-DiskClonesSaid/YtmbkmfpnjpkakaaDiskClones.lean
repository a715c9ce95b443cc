/- 'solventlaw16.DiskClones' answers true for every input, and its arguments read as before; no condition. -/
import Derived.Test.YtmbkmfpnjpkakaaR6
namespace Go.Proofs.Ytmbkmfpnjpkakaa
open Go.ChangeShapes Go.WideShapes Go.ChangeAt Go.RowKit Go.Im Go.Dsk0

set_option maxRecDepth 100000 in
set_option maxHeartbeats 3000000 in
theorem diskClones_main (n : Nat) (v : Value) (l : List DOp) (v2 : Value) (l2 : List DOp) (w : World) (hl : OpsAt w v l (fun b => b < w.heap.size)) (hl2 : OpsAt w v2 l2 (fun b => b < w.heap.size)) (hn : n ≤ 40) (hll : l.length ≤ 200) (hll2 : l2.length ≤ 200) :
    Calls Try.prog 10 #[.int .i64 n, v, v2] w fun e w' => e = .returned (.bool true) ∧ Below w.heap.size w w' := by
  obtain ⟨a, c, rfl, -, hcells⟩ := hl
  have HC := Lib.hid hcells; clear hcells
  obtain ⟨a2, cp2, rfl, -, hcells2⟩ := hl2
  have HC2 := Lib.hid hcells2; clear hcells2
  have n0 : (0 : Int) ≤ n := by omega
  have n1 : (n : Int) ≤ 40 := by omega
  have l1 : (l.length : Int) ≤ 200 := by omega
  have l21 : (l2.length : Int) ≤ 200 := by omega
  go_enter Try.func10, Try.ntmps10
  go_wp2_with fail
  refine (few_yes n a l.length c w n0 n1 hll).mono ?_; rintro e w' ⟨rfl, rfl⟩
  go_wp2_with fail
  refine (few_yes n a2 l2.length cp2 w n0 n1 hll2).mono ?_; rintro e w' ⟨rfl, rfl⟩
  go_wp2_with fail
  refine (new_calls n w).mono ?_; rintro e w1 ⟨g, bd0, bc, ba, rfl, d0, f1, hbd0, hbc, hba, hg⟩
  obtain ⟨bd, d1, hbl, hbe⟩ := d0.norm
  have hbd : w.heap.size ≤ bd := by rcases hbe with h | h <;> omega
  have D0 := Lib.hid d1; clear d0 d1
  go_wp2_with fail
  have hs1 := f1.size
  have FU := Lib.hid (foot_up hbd hbc hba)
  have hlnew : (new n).length = n := new_len (by omega)
  have HLN := Lib.hid hlnew; clear hlnew
  go_loopg [35] l.length (fun m t wr => ∃ k : Nat, m + k = l.length ∧ t = .int .i64 k ∧ DiskAt wr g bd bc ba (doAll (new n) (l.take k)) ∧ Fr (fun q => w.heap.size ≤ q) w wr ∧ w1.heap.size ≤ wr.heap.size)
  case atStart => exact ⟨0, rfl, rfl, D0.out, f1.mono (fun _ _ h => h.elim), Nat.le_refl _⟩
  case round =>
    obtain ⟨k, hm, rfl, hd, hfr, hsz⟩ := hrel
    have HM := Lib.hid hm; clear hm
    have HD := Lib.hid hd; clear hd
    by_cases hk : k < l.length
    · obtain ⟨o, ho⟩ : ∃ o, l[k]? = some o := ⟨_, List.getElem?_eq_getElem hk⟩
      obtain ⟨b, p, rfl, hb, _, hops⟩ := HC.out.resolve_left (fun e => by rw [e] at hk; simp at hk)
      obtain ⟨pv, hop⟩ := hops k o ho
      have HO := Lib.hid ho; clear ho
      have ho1 := hop.fr hfr (fun b hb hn h => by omega) hb hb
      have HP := Lib.hid ho1.picks
      have h1 := ho1.picks.one'
      obtain ⟨e0, e1, e2, e3, e4, e5, -⟩ := ho1
      clear hop hops
      go_wp2_with (first
        | (refine im_alloc_row rfl 48 rfl (zero48 _) ?_; intro w2 b2 f2 z2; have B2 := Lib.hid b2; clear b2; have Z2 := Lib.hid z2; clear z2)
        | (refine im_store_row rfl 48 _ _ rfl (vs := opC o pv) rfl rfl B2.out rfl info48 (opC_one o h1) ?_; intro w3 b3 f3 z3; obtain ⟨q0, q1, q2, q3, q4, q5⟩ := opC_cells b3; clear b3; have Z3 := Lib.hid z3; clear z3))
      clear q0 q1 q2 q3 q4 q5 e0 e1 e2 e3 e4 e5
      have hz2 := Z2.out
      have hz3 := Z3.out
      have g3 : Fr (fun q => w.heap.size ≤ q) wr w3 := (f2.mono (fun _ _ h => h.elim)).trans' f3 (fun _ _ h => h) (fun q hq h => by omega)
      have d3 := HD.out.fr (f2.trans' f3 (U := fun q => wr.heap.size ≤ q) (fun _ _ h => h.elim) (fun q hq h => by omega)) (by have := HD.out.glt; omega) (fun _ => by omega) (by have := HD.out.cache.lt; omega) (by have := HD.out.armed.lt; omega)
      have D3 := Lib.hid d3; clear d3
      have P3 := Lib.hid (HP.out.fr g3 (fun b hb hn h => by omega))
      refine (do_calls g bd bc ba _ w3 D3.out (by omega) o pv (P3.out.imp (fun b hb hn h => by have := FU.out b h; omega))).mono ?_
      rintro e w4 ⟨rfl, d4, f4⟩
      rw [← doAll_take HO.out] at d4
      have D4 := Lib.hid d4; clear d4
      have hw4 := f4.size
      go_wp2_with fail
      have hn : gk + k = l.length := HM.out
      go_roundg (gk - 1)
      case measure => omega
      case rel => exact ⟨k + 1, by omega, by go_num, D4.out, (hfr.trans' g3 (fun _ _ h => h) (fun _ _ h => h)).trans (f4.mono (fun q _ h => FU.out q h)), by omega⟩
    · have hkl : l.take k = l := List.take_of_length_le (by omega)
      obtain ⟨D, hDe⟩ : ∃ D, D = doAll (new n) l := ⟨_, rfl⟩
      have hd := HD.out
      rw [hkl, ← hDe] at hd
      have hDl : D.length = n := by rw [hDe, doAll_length]; exact HLN.out
      have HDL := Lib.hid hDl; clear hDl hDe
      clear HD
      have HD := Lib.hid hd; clear hd
      clear hkl
      clear HC
      have hgl : g < wr.heap.size := HD.out.glt
      have hcl : bc < wr.heap.size := HD.out.cache.lt
      have hal : ba < wr.heap.size := HD.out.armed.lt
      have hwr : w.heap.size ≤ wr.heap.size := by omega
      have hblN : bd < wr.heap.size := by omega
      obtain ⟨N, hN⟩ : ∃ N, N = wr.heap.size := ⟨_, rfl⟩
      go_wp2_with fail
      refine (clone_calls g bd bc ba D wr HD.out).mono ?_; rintro e w2 ⟨g', bd1, bc', ba', rfl, dc, f2, hbd1', hbc', hba', hg'⟩
      obtain ⟨bd', dc, hbl', hbe'⟩ := dc.norm
      have hbd' : wr.heap.size ≤ bd' := by rcases hbe' with h | h <;> omega
      have C2 := Lib.hid dc; clear dc
      have D2 := Lib.hid (HD.out.keep f2)
      have hz2 := f2.size
      have G2 := Lib.hid (hfr.trans f2.none); clear hfr
      rw [← hN] at hgl hcl hal hwr hblN hbd' hbc' hba' hg' hz2
      clear hN
      have FU' := Lib.hid (foot_up (n := N) hbd' hbc' hba')
      clear f2 hbe hbe' hbd1' hbd0
      go_wp2_with fail
      refine (contents_n g bd bc ba D w2 D2.out n HDL.out).mono ?_; rintro e w3 ⟨v0, rfl, r3, f3⟩
      have V0 := Lib.hid (show ∀ k, some k = v0.ownBlock → w2.heap.size ≤ k ∧ k < w3.heap.size from fun k hk => row_lt r3 hk)
      have R3 := Lib.hid r3; clear r3
      have D3 := Lib.hid (D2.out.keep f3)
      have C3 := Lib.hid (C2.out.keep f3)
      have hz3 := f3.size
      have G3 := Lib.hid (G2.out.trans f3.none)
      have hgl' : g' < w2.heap.size := C2.out.glt
      have hcl' : bc' < w2.heap.size := C2.out.cache.lt
      have hal' : ba' < w2.heap.size := C2.out.armed.lt
      clear f3
      obtain ⟨i9, hi9, hz90, hz91, hz92⟩ := info_parts info29
      go_wp2_with fail
      go_loopg [12, 52] l2.length (fun m rv t wq => ∃ k : Nat, m + k = l2.length ∧ t = .int .i64 k ∧ DiskAt wq g bd bc ba D ∧ DiskAt wq g' bd' bc' ba' (doAll D (l2.take k)) ∧ wq.ownsRow w2.heap.size 9 1 v0 n ((conts D).map strOf) ∧ wq.ownsRow w3.heap.size 29 1 rv k ((resOf D (l2.take k)).map (Value.int .i64)) ∧ Fr (fun q => w.heap.size ≤ q) w wq ∧ w3.heap.size ≤ wq.heap.size)
      case atStart => exact ⟨0, rfl, rfl, D3.out, C3.out, R3.out, World.ownsRow_nil _ _ _ _, G3.out, Nat.le_refl _⟩
      case round =>
        obtain ⟨k2, hm2, rfl, hd, hc, hold, hres, hfr2, hsz2⟩ := hrel
        have HM2 := Lib.hid hm2; clear hm2
        have HD2 := Lib.hid hd; clear hd
        have HCl := Lib.hid hc; clear hc
        have HOld := Lib.hid hold; clear hold
        have HRes := Lib.hid hres; clear hres
        by_cases hk2 : k2 < l2.length
        · obtain ⟨o, ho⟩ : ∃ o, l2[k2]? = some o := ⟨_, List.getElem?_eq_getElem hk2⟩
          obtain ⟨b, p, rfl, hb, _, hops⟩ := HC2.out.resolve_left (fun e => by rw [e] at hk2; simp at hk2)
          obtain ⟨pv, hop⟩ := hops k2 o ho
          have HO := Lib.hid ho; clear ho
          have ho1 := hop.fr hfr2 (fun b hb hn h => by omega) hb hb
          have HP := Lib.hid ho1.picks
          have h1 := ho1.picks.one'
          obtain ⟨e0, e1, e2, e3, e4, e5, -⟩ := ho1
          clear hop hops
          go_wp2_with (first
            | (refine im_alloc_row rfl 48 rfl (zero48 _) ?_; intro w4 b4 f4 z4; have B4 := Lib.hid b4; clear b4; have Z4 := Lib.hid z4; clear z4)
            | (refine im_store_row rfl 48 _ _ rfl (vs := opC o pv) rfl rfl B4.out rfl info48 (opC_one o h1) ?_; intro w5 b5 f5 z5; obtain ⟨q0, q1, q2, q3, q4, q5⟩ := opC_cells b5; clear b5; have Z5 := Lib.hid z5; clear z5))
          clear q0 q1 q2 q3 q4 q5 e0 e1 e2 e3 e4 e5
          have hz4 := Z4.out
          have hz5 := Z5.out
          have g5 : Fr (fun q => wr.heap.size ≤ q) wr w5 := f4.trans' f5 (U := fun q => wr.heap.size ≤ q) (fun _ _ h => h.elim) (fun q hq h => by omega)
          clear f4 f5
          have D5 := Lib.hid (HD2.out.fr g5 (by omega) (fun _ => by omega) (by omega) (by omega))
          have C5 := Lib.hid (HCl.out.fr g5 (by omega) (fun _ => by omega) (by omega) (by omega))
          have O5 := Lib.hid (row_fr HOld.out g5 (fun k hk1 hk2 h => by omega))
          have S5 := Lib.hid (row_fr HRes.out g5 (fun k hk1 hk2 h => by omega))
          have P5 := Lib.hid (HP.out.fr (g5.mono (T := fun q => w.heap.size ≤ q) fun q _ h => by omega) (fun b hb hn h => by omega))
          have G5 := Lib.hid (hfr2.trans (g5.mono fun q _ h => by omega))
          clear g5 hfr2
          refine (do_calls g' bd' bc' ba' _ w5 C5.out (by omega) o pv (P5.out.imp (fun b hb hn h => by have := FU'.out b h; omega))).mono ?_
          rintro e w6 ⟨rfl, c6, f6⟩
          have hres1 := resOf_take HO.out D
          have HR1 := Lib.hid hres1; clear hres1
          rw [← doAll_take HO.out] at c6
          have C6 := Lib.hid c6; clear c6
          have FLT := Lib.hid (show ∀ q, foot bd' bc' ba' q → N ≤ q ∧ q < w2.heap.size from fun q h => by unfold foot at h; omega)
          have D6 := Lib.hid (D5.out.fr f6 (fun h => by have := FLT.out _ h; omega) (fun _ h => by have := FLT.out _ h; omega) (fun h => by have := FLT.out _ h; omega) (fun h => by have := FLT.out _ h; omega))
          have O6 := Lib.hid (row_fr O5.out f6 (fun k hk _ h => by have := FLT.out _ h; omega))
          have S6 := Lib.hid (row_fr S5.out f6 (fun k hk _ h => by have := FLT.out _ h; omega))
          have G6 := Lib.hid (G5.out.trans (f6.mono fun q _ h => by have := FU'.out q h; omega))
          have hz6 := f6.size
          clear f6
          go_wp2_with (first
            | (at_builtin; refine im_append1 rfl _ _ 72 rfl w3.heap.size mt72 hi9 hz90 hz91 hz92 rfl (by decide) rfl (row_fr S6.out ((Fr.refl (fun _ => False) _).alloc _) (fun _ _ _ h => h)) rfl (heap_alloc_new w6 _) rfl (by simp [Value.oneCell']) (by unfold maxLen; omega) (by omega) (by simp; omega) ?_; intro v7 w7 r7 f7; have R7 := Lib.hid r7; clear r7))
          have f67 : Fr (fun q => w3.heap.size ≤ q) w6 w7 := ((Fr.refl (fun q => w3.heap.size ≤ q) w6).alloc _).trans f7
          have hz7 := f67.size
          have D7 := D6.out.fr f67 (by omega) (fun _ => by omega) (by omega) (by omega)
          have C7 := C6.out.fr f67 (by omega) (fun _ => by omega) (by omega) (by omega)
          have O7 := row_frb O6.out f67 (fun k hk => by have := V0.out k hk; omega)
          have hn : gk + k2 = l2.length := HM2.out
          have RR := R7.out
          go_roundg (gk - 1)
          case measure => omega
          case rel =>
            refine ⟨k2 + 1, by omega, by go_num, D7, C7, O7, ?_, G6.out.trans (f67.mono fun q _ h => by omega), by omega⟩
            rw [HR1.out, List.map_append]
            exact RR
        · have hkl2 : l2.take k2 = l2 := List.take_of_length_le (by omega)
          obtain ⟨E, hE⟩ : ∃ E, E = doAll D l2 := ⟨_, rfl⟩
          have hc' := HCl.out
          have hr' := HRes.out
          rw [hkl2] at hc' hr'
          rw [← hE] at hc'
          have hk2e : k2 = l2.length := by have := HM2.out; omega
          subst hk2e
          have hEl : E.length = n := by rw [hE, doAll_length]; exact HDL.out
          have HEL := Lib.hid hEl; clear hEl
          have HEE := Lib.hid hE; clear hE
          clear HCl HRes hkl2
          have HCl := Lib.hid hc'; clear hc'
          have HRes := Lib.hid hr'; clear hr'
          have FLT := Lib.hid (show ∀ q, foot bd bc ba q → w.heap.size ≤ q ∧ q < N from fun q h => by have := FU.out q h; unfold foot at h; omega)
          go_wp2_with fail
          refine (contents_n g bd bc ba D wr HD2.out n HDL.out).mono ?_; rintro e w4 ⟨v1, rfl, r4, f4⟩
          have R4 := Lib.hid r4; clear r4
          have D4 := Lib.hid (HD2.out.keep f4)
          have C4 := Lib.hid (HCl.out.keep f4)
          have O4 := Lib.hid (row_keep HOld.out f4)
          have S4 := Lib.hid (row_keep HRes.out f4)
          have G4 := Lib.hid (hfr2.trans f4.none)
          have hz4 := f4.size
          clear f4 hfr2 HD2 HCl HOld HRes
          go_wp2_with fail
          refine (equal_yes v0 v1 _ _ w4 O4.out R4.out (by rw [conts_length, HDL.out]; omega) rfl).mono ?_; rintro e w5 ⟨rfl, f5⟩
          have D5 := Lib.hid (D4.out.keep f5)
          have C5 := Lib.hid (C4.out.keep f5)
          have S5 := Lib.hid (row_keep S4.out f5)
          have G5 := Lib.hid (G4.out.trans f5.none)
          have hz5 := f5.size
          clear f5 D4 C4 O4 S4 R4 G4
          go_wp2_with fail
          refine (contents_n g' bd' bc' ba' E w5 C5.out n HEL.out).mono ?_; rintro e w6 ⟨v2, rfl, r6, f6⟩
          have V2 := Lib.hid (show ∀ k, some k = v2.ownBlock → w5.heap.size ≤ k ∧ k < w6.heap.size from fun k hk => row_lt r6 hk)
          have R6 := Lib.hid r6; clear r6
          have D6 := Lib.hid (D5.out.keep f6)
          have C6 := Lib.hid (C5.out.keep f6)
          have S6 := Lib.hid (row_keep S5.out f6)
          have G6 := Lib.hid (G5.out.trans f6.none)
          have hz6 := f6.size
          clear f6 D5 C5 S5 G5
          go_wp2_with fail
          go_loopg [74] l2.length (fun m t wq => ∃ k : Nat, m + k = l2.length ∧ t = .int .i64 k ∧ DiskAt wq g bd bc ba (doAll D (l2.take k)) ∧ DiskAt wq g' bd' bc' ba' E ∧ wq.ownsRow w5.heap.size 9 1 v2 n ((conts E).map strOf) ∧ wq.ownsRow w3.heap.size 29 1 u12 l2.length ((resOf D l2).map (Value.int .i64)) ∧ Fr (fun q => w.heap.size ≤ q) w wq ∧ w6.heap.size ≤ wq.heap.size)
          case atStart => exact ⟨0, rfl, rfl, D6.out, C6.out, R6.out, S6.out, G6.out, Nat.le_refl _⟩
          case round =>
            obtain ⟨k3, hm3, rfl, hd, hc, hfresh, hres, hfr3, hsz3⟩ := hrel
            have HM3 := Lib.hid hm3; clear hm3
            have HD3 := Lib.hid hd; clear hd
            have HC3 := Lib.hid hc; clear hc
            have HF3 := Lib.hid hfresh; clear hfresh
            by_cases hk3 : k3 < l2.length
            · obtain ⟨o, ho⟩ : ∃ o, l2[k3]? = some o := ⟨_, List.getElem?_eq_getElem hk3⟩
              obtain ⟨b, p, rfl, hb, _, hops⟩ := HC2.out.resolve_left (fun e => by rw [e] at hk3; simp at hk3)
              obtain ⟨pv, hop⟩ := hops k3 o ho
              have hrk := resOf_get l2 k3 o D ho
              obtain ⟨gr, vcr, rfl, hgr1, hgr2, hgr3⟩ := row_ints hres hrk
              have HS3 := Lib.hid hres; clear hres
              have HO := Lib.hid ho; clear ho
              clear hrk
              have ho1 := hop.fr hfr3 (fun b hb hn h => by omega) hb hb
              have HP := Lib.hid ho1.picks
              have h1 := ho1.picks.one'
              obtain ⟨e0, e1, e2, e3, e4, e5, -⟩ := ho1
              clear hop hops
              obtain ⟨rx, hrx⟩ : ∃ rx, rx = (doOp (doAll D (l2.take k3)) o).1 := ⟨_, rfl⟩
              rw [← hrx] at hgr3
              have HRX := Lib.hid hrx; clear hrx
              go_wp2_with (first
                | (refine im_alloc_row rfl 48 rfl (zero48 _) ?_; intro w7 b7 f7 z7; have B7 := Lib.hid b7; clear b7; have Z7 := Lib.hid z7; clear z7)
                | (refine im_store_row rfl 48 _ _ rfl (vs := opC o pv) rfl rfl B7.out rfl info48 (opC_one o h1) ?_; intro w8 b8 f8 z8; have B8 := Lib.hid b8; clear b8; have Z8 := Lib.hid z8; clear z8))
              clear e0 e1 e2 e3 e4 e5
              have hz7 := Z7.out
              have hz8 := Z8.out
              have g8 : Fr (fun q => wr.heap.size ≤ q) wr w8 := f7.trans' f8 (U := fun q => wr.heap.size ≤ q) (fun _ _ h => h.elim) (fun q hq h => by omega)
              clear f7 f8
              have D8 := Lib.hid (HD3.out.fr g8 (by omega) (fun _ => by omega) (by omega) (by omega))
              have C8 := Lib.hid (HC3.out.fr g8 (by omega) (fun _ => by omega) (by omega) (by omega))
              have F8 := Lib.hid (row_frb HF3.out g8 (fun k hk => by have := row_lt HF3.out hk; omega))
              have S8 := Lib.hid (row_fr1 HS3.out g8 (by omega))
              have P8 := Lib.hid (HP.out.fr (g8.mono (T := fun q => w.heap.size ≤ q) fun q _ h => by omega) (fun b hb hn h => by omega))
              have G8 := Lib.hid (hfr3.trans (g8.mono fun q _ h => by omega))
              have c8 := (g8.cb hgr2 (by omega)).trans hgr3
              clear g8 hfr3 hgr3
              refine wp_region_seq (fun W => W.heap[wr.heap.size]? = some (.cells (opC o pv) 48 (0, 0)) ∧ W.cell? ⟨gr, k3, none⟩ = some (.int .i64 rx)) [0, 1, 3, 4, 5, 6, 2, 7] [2, 7] (by kernel_rfl) (by kernel_rfl) (by kernel_rfl) ⟨B8.out, c8⟩ ?_
              simp only [pickOps, List.filterMap_cons, List.filterMap_nil, List.getElem?_toArray, List.getElem?_cons_zero, List.getElem?_cons_succ, Option.map_some]
              repeat (refine seqH_read (v := ?_) (by rfl) (by rfl) ?_ ?_; rotate_left; (focus (intro W hS; (try dsimp only at hS); obtain ⟨hS1, hS2⟩ := hS; obtain ⟨s1, s2, s3, s4, s5, s6⟩ := opC_cells hS1; clear hS1; go_simp; try with_reducible rfl)); simp only [Act.put, List.setIfInBounds_toArray, List.set_cons_zero, List.set_cons_succ])
              refine seqH_eff (by rfl) (by rfl) fun K hK => ?_
              refine wp_callC 27 #[.pointer (some ⟨g, 0, none⟩), opV o pv] (by unfold opV; go_simp) (R := fun v w' => v = .int .i64 (doOp (doAll D (l2.take k3)) o).1 ∧ DiskAt w' g bd bc ba (doOp (doAll D (l2.take k3)) o).2 ∧ Fr (foot bd bc ba) w8.drew w')
                ((do_calls g bd bc ba _ w8.drew (D8.out.fr ((Fr.refl (fun _ => False) w8).drew) (fun h => h) (fun _ h => h) (fun h => h) (fun h => h)) (by simp; omega) o pv ((P8.out.fr ((Fr.refl (fun _ => False) w8).drew) (fun _ _ _ h => h)).imp (fun b hb hn h => by have := FU.out b h; omega))).mono (by rintro e w' ⟨rfl, hd, hf⟩; exact ⟨_, rfl, rfl, hd, hf⟩)) ?_
              rintro v w9 ⟨rfl, d9, f9⟩
              replace f9 := f9.undrew
              rw [← doAll_take HO.out] at d9
              rw [← HRX.out]
              have D9 := Lib.hid d9; clear d9
              have C9 := Lib.hid (C8.out.fr f9 (fun h => by have := FLT.out _ h; omega) (fun _ h => by have := FLT.out _ h; omega) (fun h => by have := FLT.out _ h; omega) (fun h => by have := FLT.out _ h; omega))
              have F9 := Lib.hid (row_fr F8.out f9 (fun k hk _ h => by have := FLT.out _ h; omega))
              have S9 := Lib.hid (row_fr1 S8.out f9 (fun h => by have := FLT.out _ h; omega))
              have G9 := Lib.hid (G8.out.trans (f9.mono fun q _ h => by have := FLT.out q h; omega))
              have hz9 := f9.size
              refine hK.out _ _ ⟨(f9.block _ (by omega) (fun h => by have := FLT.out _ h; omega)).trans B8.out, (f9.cb (by omega) (fun h => by have := FLT.out _ h; omega)).trans c8⟩ ?_
              simp only [Act.put, List.setIfInBounds_toArray, List.set_cons_zero, List.set_cons_succ]
              refine seqH_eff (by rfl) (by rfl) fun K hK => ?_
              unfold Oper.wp
              go_simp
              refine hK.out _ _ ⟨(f9.block _ (by omega) (fun h => by have := FLT.out _ h; omega)).trans B8.out, (f9.cb (by omega) (fun h => by have := FLT.out _ h; omega)).trans c8⟩ ?_
              refine seqH_nil ?_
              clear f9
              go_wp2_with fail
              have hn : gk + k3 = l2.length := HM3.out
              go_roundg (gk - 1)
              case measure => omega
              case rel => exact ⟨k3 + 1, by omega, by go_num, D9.out, C9.out, F9.out, S9.out, G9.out, by omega⟩
            · have hk3e : k3 = l2.length := by have := HM3.out; omega
              subst hk3e
              have hd' := HD3.out
              rw [List.take_length, ← HEE.out] at hd'
              clear HD3
              have D7 := Lib.hid hd'; clear hd'
              go_wp2_with fail
              refine (sanity_calls _).mono ?_; rintro e w7 ⟨rfl, f7⟩
              have D8 := Lib.hid (D7.out.keep f7)
              have C8 := Lib.hid (HC3.out.keep f7)
              have F8 := Lib.hid (row_keep HF3.out f7)
              have G8 := Lib.hid (hfr3.trans f7.none)
              clear f7 hfr3 D7 HC3 HF3
              go_wp2_with fail
              refine (contents_n g bd bc ba E w7 D8.out n HEL.out).mono ?_; rintro e w8 ⟨v3, rfl, r8, f8⟩
              have R8 := Lib.hid r8; clear r8
              have D9 := Lib.hid (D8.out.keep f8)
              have C9 := Lib.hid (C8.out.keep f8)
              have F9 := Lib.hid (row_keep F8.out f8)
              have G9 := Lib.hid (G8.out.trans f8.none)
              clear f8 D8 C8 F8 G8
              go_wp2_with fail
              refine (equal_yes v2 v3 _ _ w8 F9.out R8.out (by rw [conts_length, HEL.out]; omega) rfl).mono ?_; rintro e w9 ⟨rfl, f9⟩
              have D10 := Lib.hid (D9.out.keep f9)
              have C10 := Lib.hid (C9.out.keep f9)
              have F10 := Lib.hid (row_keep F9.out f9)
              have G10 := Lib.hid (G9.out.trans f9.none)
              clear f9 D9 C9 F9 G9
              go_wp2_with fail
              refine (contents_n g' bd' bc' ba' E w9 C10.out n HEL.out).mono ?_; rintro e w10 ⟨v4, rfl, r10, f10⟩
              have R10 := Lib.hid r10; clear r10
              have D11 := Lib.hid (D10.out.keep f10)
              have C11 := Lib.hid (C10.out.keep f10)
              have F11 := Lib.hid (row_keep F10.out f10)
              have G11 := Lib.hid (G10.out.trans f10.none)
              clear f10 D10 C10 F10 G10
              go_wp2_with fail
              refine (equal_yes v2 v4 _ _ w10 F11.out R10.out (by rw [conts_length, HEL.out]; omega) rfl).mono ?_; rintro e w11 ⟨rfl, f11⟩
              have D12 := Lib.hid (D11.out.keep f11)
              have C12 := Lib.hid (C11.out.keep f11)
              have G12 := Lib.hid (G11.out.trans f11.none)
              clear f11 D11 C11 F11 G11
              have hpl : (pendI E).length ≤ 65536 := by
                have := C12.out.ok.len
                unfold pendI pend
                rw [List.length_map]
                exact Nat.le_trans (List.length_filter_le _ _) (by simpa using this)
              have HPL := Lib.hid (Nat.le_trans hpl (show 65536 ≤ 9223372036854775807 by decide)); clear hpl
              go_wp2_with fail
              refine (pending_calls g' bd' bc' ba' E w11 C12.out).mono ?_; rintro e w12 ⟨v5, rfl, r12, f12⟩
              have I12 := Lib.hid (IntsAt.of_row (ok := fun _ => True) r12 (fun _ _ _ => trivial) HPL.out); clear r12
              have D13 := Lib.hid (D12.out.keep f12)
              have G13 := Lib.hid (G12.out.trans f12.none)
              clear f12
              go_wp2_with fail
              refine (pending_calls g bd bc ba E w12 D13.out).mono ?_; rintro e w13 ⟨v6, rfl, r13, f13⟩
              have I13 := Lib.hid (IntsAt.of_row (ok := fun _ => True) r13 (fun _ _ _ => trivial) HPL.out); clear r13
              have I13b := Lib.hid (I12.out.fr f13 (fun _ _ _ h => h))
              have G14 := Lib.hid (G13.out.trans f13.none)
              clear f13
              go_wp2_with fail
              refine (same_calls v5 v6 _ _ w13 I13b.out I13.out).mono ?_; rintro e w14 ⟨rfl, f14⟩
              rw [decide_eq_true rfl]
              go_wp2_with fail
              go_ret
              exact ⟨rfl, fr_below (G14.out.trans f14.none)⟩

theorem diskClones_walk (n : Int) (v : Value) (l : List DOp) (v2 : Value) (l2 : List DOp) (w : World) (hl : OpsAt w v l (fun b => b < w.heap.size)) (hl2 : OpsAt w v2 l2 (fun b => b < w.heap.size)) :
    Calls Try.prog 10 #[.int .i64 n, v, v2] w fun e w' => e = .returned (.bool true) ∧ Below w.heap.size w w' := by
  by_cases h : 0 ≤ n ∧ n ≤ 40 ∧ l.length ≤ 200
  · by_cases h2 : l2.length ≤ 200
    · obtain ⟨n, rfl⟩ : ∃ k : Nat, n = k := ⟨n.toNat, by omega⟩
      exact diskClones_main n v l v2 l2 w hl hl2 (by omega) (by omega) h2
    · obtain ⟨a, c, rfl, -, -⟩ := hl
      obtain ⟨a2, c2, rfl, -, -⟩ := hl2
      obtain ⟨h0, h1, h3⟩ := h
      have HF := Lib.hid (show ¬ (0 ≤ n ∧ n ≤ 40 ∧ l2.length ≤ 200) from fun h => h2 h.2.2); clear h2
      go_enter Try.func10, Try.ntmps10
      go_wp2_with fail
      refine (few_yes n a l.length c w h0 h1 h3).mono ?_; rintro e w' ⟨rfl, rfl⟩
      go_wp2_with fail
      refine (few_no n a2 l2.length c2 w HF.out).mono ?_; rintro e w' ⟨rfl, rfl⟩
      go_wp2_with fail
      refine (sanity_calls w).mono ?_; rintro e w1 ⟨rfl, f1⟩
      go_wp2_with fail
      go_ret
      exact ⟨rfl, f1.below⟩
  · obtain ⟨a, c, rfl, -, -⟩ := hl
    obtain ⟨a2, c2, rfl, -, -⟩ := hl2
    have HF := Lib.hid h; clear h
    go_enter Try.func10, Try.ntmps10
    go_wp2_with fail
    refine (few_no n a l.length c w HF.out).mono ?_; rintro e w' ⟨rfl, rfl⟩
    go_wp2_with fail
    refine (sanity_calls w).mono ?_; rintro e w1 ⟨rfl, f1⟩
    go_wp2_with fail
    go_ret
    exact ⟨rfl, f1.below⟩

set_option maxRecDepth 100000 in
theorem diskClones_lifted (os : Os) (started : os.Started) (H : Type) (enc : TypeId × Value → H) :
    ReturnsInHanded {} Try.checked os 10 .any (Rows.diskClonesSpec.pre6 enc Try.prog Try.f10 Rows.diskClonesRow.domain false) (Rows.diskClonesSpec.post enc Try.prog Try.f10 false true false false) := by
  refine returnsInHanded_of_change (C := Try.checked) own started (by kernel_rfl) Try.func10
    (ChangeSpec.witness6 (enc := enc) (C := Try.checked) false ⟨#[], #[.int .i64 0, .slice none 0 0, .slice none 0 0], []⟩ 8 (by kernel_rfl) (by kernel_rfl) (by kernel_rfl) (by kernel_rfl)) ?_
  intro W base args ds gs before hval0 hW hcnd _
  have hval : ∀ (j : Nat) t v, Try.f10.params[j]? = some t → args[j]? = some v → Value.okWide Try.prog W .any base t v := hval0
  have hW' := hW
  obtain ⟨p, q, hA0, hV, rfl, hfz, hnd⟩ := hW
  have hA : DataW.TrodAll enc Try.prog W 0 (fun _ => true) true Try.f10.params.toList args.toList ds p := hA0
  rw [Try.params10] at hA hval
  obtain ⟨v0, vs0, d0, ds0, p0, q0, hargs, rfl, rfl, h0, r0⟩ := trodAll_cons hA
  obtain ⟨v1, vs1, d1, ds1, p1, q1, rfl, rfl, rfl, h1, r1⟩ := trodAll_cons r0
  obtain ⟨v2, vs2, d2, ds2, p2, q2, rfl, rfl, rfl, h2, r2⟩ := trodAll_cons r1
  obtain ⟨rfl, rfl, rfl⟩ := trodAll_nil r2
  obtain rfl : args = #[v0, v1, v2] := by cases args; simp_all
  obtain ⟨rfl, rfl⟩ := trodVars_none hV
  obtain ⟨a0, rfl, rfl, rfl, w0⟩ := open_int Try.underlying3 (hval 0 3 v0 rfl rfl) h0
  obtain ⟨b1, len1, cap1, rfl⟩ := okWide_slice Try.underlying39 (hval 1 39 v1 rfl rfl)
  obtain ⟨l1, hl1⟩ : ∃ l, OpsAt W (.slice b1 len1 cap1) l (fun b => b < W.heap.size) := by obtain ⟨fuel, hf⟩ := h1; exact ops_of_cells opTypes hf
  obtain ⟨b2, len2, cap2, rfl⟩ := okWide_slice Try.underlying39 (hval 2 39 v2 rfl rfl)
  obtain ⟨l2, hl2⟩ : ∃ l, OpsAt W (.slice b2 len2 cap2) l (fun b => b < W.heap.size) := by obtain ⟨fuel, hf⟩ := h2; exact ops_of_cells opTypes hf
  clear hA0 hval0
  refine (diskClones_walk a0 _ l1 _ l2 W hl1 hl2).mono fun e W' ⟨he, hb⟩ => ?_
  subst he
  exact ⟨_, rfl, law_post laidOut Try.underlying4 hW' rfl rfl (by kernel_rfl) ⟨rfl, rfl, rfl⟩ hb⟩

/-- The statement. -/
theorem diskClones_proved : Rows.DiskClonesSaid :=
  OpenClaim.holds_of_wide 10 Try.f10 rfl rfl rfl rfl rfl rfl rfl ⟨rfl, rfl, rfl, rfl, rfl⟩ rfl rfl rfl rfl rfl (by kernel_rfl) Try.func10 (by kernel_rfl)
    (of_decide_eq_true (by kernel_rfl)) (by unfold Func.isWrapper; first | (rw [if_pos (by decide +kernel)]; kernel_rfl) | (rw [if_neg (by decide +kernel)]; exact ⟨rfl, rfl⟩))
    (fun os started H enc _ => diskClones_lifted os started H enc)
#print axioms diskClones_proved
end Go.Proofs.Ytmbkmfpnjpkakaa
