/- 'solventlaw16.DiskReads' answers true for every input, and its arguments read as before; no condition. -/
import Derived.Test.YtmbkmfpnjpkakaaR5
import Derived.Test.YtmbkmfpnjpkakaaA5
namespace Go.Proofs.Ytmbkmfpnjpkakaa
open Go.ChangeShapes Go.WideShapes Go.ChangeAt Go.RowKit Go.Im Go.Dsk0

set_option maxRecDepth 100000 in
set_option maxHeartbeats 3000000 in
theorem diskReads_main (n : Nat) (v : Value) (l : List DOp) (w : World) (hl : OpsAt w v l (fun b => b < w.heap.size)) (hn : n ≤ 40) (hll : l.length ≤ 200) :
    Calls Try.prog 7 #[.int .i64 n, v] w fun e w' => e = .returned (.bool true) ∧ Below w.heap.size w w' := by
  obtain ⟨a, c, rfl, -, hcells⟩ := hl
  have HC := Lib.hid hcells; clear hcells
  have n0 : (0 : Int) ≤ n := by omega
  have n1 : (n : Int) ≤ 40 := by omega
  have l1 : (l.length : Int) ≤ 200 := by omega
  go_enter Try.func7, Try.ntmps7
  go_wp2_with fail
  refine (few_yes n a l.length c w n0 n1 hll).mono ?_; rintro e w' ⟨rfl, rfl⟩
  go_wp2_with fail
  refine (new_calls n w).mono ?_; rintro e w0 ⟨g, bd0, bc, ba, rfl, d0, f0, hbd0, hbc, hba, hg⟩
  obtain ⟨bd, d1, hbl, hbe⟩ := d0.norm
  have hbd : w.heap.size ≤ bd := by rcases hbe with h | h <;> omega
  have D0 := Lib.hid d1; clear d0 d1
  go_wp2_with (first
    | (refine im_makeMap rfl 63 rfl ?_; intro w1 b1 f1 z1; have B1 := Lib.hid b1; clear b1; have Z1 := Lib.hid z1; clear z1))
  have hz1 := Z1.out
  have hs0 := f0.size
  have FU := Lib.hid (foot_up hbd hbc hba)
  have hgl : g < w0.heap.size := D0.out.glt
  have hcl : bc < w0.heap.size := D0.out.cache.lt
  have hal : ba < w0.heap.size := D0.out.armed.lt
  have FM := Lib.hid (show ¬ foot bd bc ba w0.heap.size from fun h => by unfold foot at h; omega)
  go_loopg [26] l.length (fun m t wr => ∃ (k : Nat) (D : Dsk) (L : LastW), m + k = l.length ∧ t = .int .i64 k ∧ RInv n D L ∧ DiskAt wr g bd bc ba D ∧ At wr w0.heap.size (lastF L) ∧ Fr (fun q => w.heap.size ≤ q) w wr ∧ w1.heap.size ≤ wr.heap.size)
  case atStart => exact ⟨0, _, _, rfl, rfl, RInv.new (by omega), D0.out.keep f1, B1.out, (f0.trans f1).none, Nat.le_refl _⟩
  case round =>
    obtain ⟨k, D, L, hm, rfl, hinv, hd, hat, hfr, hsz⟩ := hrel
    have HM := Lib.hid hm; clear hm
    have HD := Lib.hid hd; clear hd
    have HI := Lib.hid hinv; clear hinv
    have HA := Lib.hid hat; clear hat
    by_cases hk : k < l.length
    · obtain ⟨o, ho⟩ : ∃ o, l[k]? = some o := ⟨_, List.getElem?_eq_getElem hk⟩
      obtain ⟨b, p, rfl, hb, _, hops⟩ := HC.out.resolve_left (fun e => by rw [e] at hk; simp at hk)
      obtain ⟨pv, hop⟩ := hops k o ho
      clear ho
      have ho1 := hop.fr hfr (fun b hb hn h => by omega) hb hb
      have HP := Lib.hid ho1.picks
      have h1 := ho1.picks.one'
      obtain ⟨e0, e1, e2, e3, e4, e5, -⟩ := ho1
      clear hop hops
      obtain ⟨kind, i, j, fill, size, picks⟩ := o
      simp only at e0 e1 e2 e3 e4 HP
      by_cases k1 : kind = 1
      · subst k1
        go_wp2_with (first
          | (refine im_alloc_row rfl 48 rfl (zero48 _) ?_; intro w2 b2 f2 z2; have B2 := Lib.hid b2; clear b2; have Z2 := Lib.hid z2; clear z2)
          | (refine im_store_row rfl 48 _ _ rfl (vs := opC ⟨1, i, j, fill, size, picks⟩ pv) rfl rfl B2.out rfl info48 (opC_one _ h1) ?_; intro w3 b3 f3 z3; obtain ⟨q0, q1, q2, q3, q4, q5⟩ := opC_cells b3; have B3 := Lib.hid b3; clear b3; have Z3 := Lib.hid z3; clear z3; simp only at q0 q1 q2 q3 q4 q5))
        clear q0 q1 q2 q3 q4 q5 e0 e1 e2 e3 e4 e5
        have hz2 := Z2.out
        have hz3 := Z3.out
        have g23 : Fr (fun q => wr.heap.size ≤ q) wr w3 := f2.trans' f3 (U := fun q => wr.heap.size ≤ q) (fun _ _ h => h.elim) (fun q hq h => by omega)
        have D3 := Lib.hid (HD.out.fr g23 (by have := HD.out.glt; omega) (fun _ => by omega) (by have := HD.out.cache.lt; omega) (by have := HD.out.armed.lt; omega))
        have A3 := Lib.hid (HA.out.same (g23.block _ (by have := HA.out.lt; omega) (by have := HA.out.lt; omega)))
        have P3 := Lib.hid (HP.out.fr g23 (fun b hb hn h => by omega))
        have G3 := Lib.hid (hfr.trans (g23.mono fun q _ h => by omega))
        have hws : w.heap.size ≤ w3.heap.size := by omega
        have FB := Lib.hid (D3.out.lts' (by omega))
        have hnb : ¬ foot bd bc ba wr.heap.size := fun h => by unfold foot at h; have := HD.out.cache.lt; have := HD.out.armed.lt; omega
        have HNB := Lib.hid hnb; clear hnb
        have hblk3 : wr.heap.size < w3.heap.size := lt_of_blk B3.out
        clear g23 f2 f3 hfr
        obtain ⟨T, hT⟩ : ∃ T, T = text ⟨1, i, j, fill, size, picks⟩ := ⟨_, rfl⟩
        have hdo : doOp D ⟨1, i, j, fill, size, picks⟩ = write D i T := by rw [hT]; unfold doOp; rw [if_pos rfl]
        have hcall : ∀ W : World, Calls Try.prog 37 #[.agg #[.int .i64 1, .int .i64 i, .int .i64 j, B fill, .int .i64 size, pv]] W fun e w' => e = .returned (.string ⟨T.toArray⟩) ∧ Fr (fun _ => False) W w' := fun W => by
          rw [hT]; exact text_calls ⟨1, i, j, fill, size, picks⟩ pv W
        have HCT := Lib.hid hcall; clear hcall
        clear hT
        refine (do_calls g bd bc ba D w3 D3.out (by omega) ⟨1, i, j, fill, size, picks⟩ pv (P3.out.imp (fun b hb hn h => by have := FU.out b h; omega))).mono ?_
        rw [hdo]
        clear hdo
        rintro e w4 ⟨rfl, d4, f4⟩
        have hz4 := f4.size
        have b4 := (f4.block _ hblk3 HNB.out).trans B3.out
        have A4 := Lib.hid (A3.out.same (f4.block _ (by have := A3.out.lt; omega) FM.out))
        have G4 := Lib.hid (G3.out.trans (f4.mono fun q _ h => FU.out q h))
        obtain ⟨q0, q1, q2, q3, q4, q5⟩ := opC_cells b4
        have B4 := Lib.hid b4; clear b4
        simp only at q0 q1 q2 q3 q4 q5
        clear f4
        by_cases hgood : has D i = true ∧ T.length = 64
        · obtain ⟨hhas, h64⟩ := hgood
          have hi' := has_iff.1 hhas
          obtain ⟨i, rfl⟩ : ∃ k : Nat, i = k := ⟨i.toNat, by omega⟩
          have hiD : i < D.length := by omega
          have hin : i < n := by have := HI.out.len; omega
          have hI4 := HI.out.write hin h64
          have hw0 : (write D i T).1 = 0 := by rw [Dsk0.write_plain hiD h64 HI.out.goal]
          rw [hw0]
          obtain ⟨E, hE⟩ : ∃ E, E = (write D i T).2 := ⟨_, rfl⟩
          rw [← hE] at d4 hI4
          clear hE hw0
          have I4 := Lib.hid hI4; clear hI4
          have D4 := Lib.hid d4; clear d4
          clear hhas hi' hiD hin h64
          clear HI HD D3 HA A3 P3
          go_wp2_with fail
          clear q0 q1 q2 q3 q4 q5
          refine wp_region_seq (fun W => W.heap[wr.heap.size]? = some (.cells #[.int .i64 1, .int .i64 i, .int .i64 j, B fill, .int .i64 size, pv] 48 (0, 0))) [0, 1, 2, 3, 4, 5] [4, 5] (by kernel_rfl) (by kernel_rfl) (by kernel_rfl) B4.out ?_
          simp only [pickOps, List.filterMap_cons, List.filterMap_nil, List.getElem?_toArray, List.getElem?_cons_zero, List.getElem?_cons_succ, Option.map_some]
          repeat (refine seqH_read (v := ?_) (by rfl) (by rfl) ?_ ?_; rotate_left; (focus (intro W hS; (try dsimp only at hS); have s1 : W.cell? ⟨wr.heap.size, 0, none⟩ = some (.int .i64 1) := cell_of_blk hS; have s2 : W.cell? ⟨wr.heap.size, 1, none⟩ = some (.int .i64 i) := cell_of_blk hS; have s3 : W.cell? ⟨wr.heap.size, 2, none⟩ = some (.int .i64 j) := cell_of_blk hS; have s4 : W.cell? ⟨wr.heap.size, 3, none⟩ = some (B fill) := cell_of_blk hS; have s5 : W.cell? ⟨wr.heap.size, 4, none⟩ = some (.int .i64 size) := cell_of_blk hS; have s6 : W.cell? ⟨wr.heap.size, 5, none⟩ = some pv := cell_of_blk hS; go_simp; try with_reducible rfl)); simp only [Act.put, List.setIfInBounds_toArray, List.set_cons_zero, List.set_cons_succ])
          refine seqH_eff (by rfl) (by rfl) fun K hK => ?_
          refine wp_callC 37 #[.agg #[.int .i64 1, .int .i64 i, .int .i64 j, B fill, .int .i64 size, pv]] (by go_simp) (R := fun v w' => v = .string ⟨T.toArray⟩ ∧ Fr (fun _ => False) w4.drew w') ((HCT.out w4.drew).mono (by rintro e w' ⟨rfl, hf⟩; exact ⟨_, rfl, rfl, hf⟩)) ?_
          rintro v w5 ⟨rfl, f5⟩
          replace f5 := f5.undrew
          have b5 := (f5.block _ (lt_of_blk B4.out) (fun h => h)).trans B4.out
          refine hK.out _ _ b5 ?_
          simp only [Act.put, List.setIfInBounds_toArray, List.set_cons_zero, List.set_cons_succ]
          have D5 := Lib.hid (D4.out.keep f5)
          have A5 := Lib.hid (A4.out.same (f5.block _ A4.out.lt (fun h => h)))
          have hz5 := f5.size
          refine seqH_eff (by rfl) (by rfl) fun K hK => ?_
          refine wp_mapUpdate _ _ _ 63 rfl mt63 kt i _ rfl rfl rfl A5.out ?_
          intro w6 h6 f6 z6
          have D6 := Lib.hid (D5.out.fr f6 (by omega) (fun _ h => FM.out (by rw [← h]; exact foot_d _ _ _)) (fun h => FM.out (by rw [← h]; exact foot_c _ _ _)) (fun h => FM.out (by rw [← h]; exact foot_a _ _ _)))
          have H6 := Lib.hid h6; clear h6
          refine hK.out _ _ ((f6.block _ (by omega) (by omega)).trans b5) ?_
          refine seqH_nil ?_
          go_wp2_with fail
          have hn : gk + k = l.length := HM.out
          go_roundg (gk - 1)
          case measure => omega
          case rel =>
            refine ⟨k + 1, E, updW L i T, by omega, by go_num, I4.out, D6.out, ?_, (G4.out.trans f5.none).trans (f6.mono fun q _ h => by omega), by omega⟩
            rw [lastF_upd]; exact H6.out
        · have hw : write D i T = (1, D) := by unfold write; rw [if_neg hgood]
          rw [hw] at d4 ⊢
          clear hgood hw
          have D4 := Lib.hid d4; clear d4
          clear HD D3 HA A3 P3
          go_wp2_with fail
          clear q0 q1 q2 q3 q4 q5
          have hn : gk + k = l.length := HM.out
          go_roundg (gk - 1)
          case measure => omega
          case rel => exact ⟨k + 1, D, L, by omega, by go_num, HI.out, D4.out, A4.out, G4.out, by omega⟩
      · by_cases k2 : kind = 2
        · subst k2
          clear k1
          go_wp2_with (first
            | (refine im_alloc_row rfl 48 rfl (zero48 _) ?_; intro w2 b2 f2 z2; have B2 := Lib.hid b2; clear b2; have Z2 := Lib.hid z2; clear z2)
            | (refine im_store_row rfl 48 _ _ rfl (vs := opC ⟨2, i, j, fill, size, picks⟩ pv) rfl rfl B2.out rfl info48 (opC_one _ h1) ?_; intro w3 b3 f3 z3; obtain ⟨q0, q1, q2, q3, q4, q5⟩ := opC_cells b3; have B3 := Lib.hid b3; clear b3; have Z3 := Lib.hid z3; clear z3; simp only at q0 q1 q2 q3 q4 q5))
          clear q0 q1 q2 q3 q4 q5 e0 e1 e2 e3 e4 e5
          have hz2 := Z2.out
          have hz3 := Z3.out
          have g23 : Fr (fun q => wr.heap.size ≤ q) wr w3 := f2.trans' f3 (U := fun q => wr.heap.size ≤ q) (fun _ _ h => h.elim) (fun q hq h => by omega)
          have D3 := Lib.hid (HD.out.fr g23 (by have := HD.out.glt; omega) (fun _ => by omega) (by have := HD.out.cache.lt; omega) (by have := HD.out.armed.lt; omega))
          have A3 := Lib.hid (HA.out.same (g23.block _ (by have := HA.out.lt; omega) (by have := HA.out.lt; omega)))
          have P3 := Lib.hid (HP.out.fr g23 (fun b hb hn h => by omega))
          have G3 := Lib.hid (hfr.trans (g23.mono fun q _ h => by omega))
          have hnb : ¬ foot bd bc ba wr.heap.size := fun h => by unfold foot at h; have := HD.out.cache.lt; have := HD.out.armed.lt; omega
          have HNB := Lib.hid hnb; clear hnb
          have hblk3 : wr.heap.size < w3.heap.size := lt_of_blk B3.out
          clear g23 f2 f3 hfr
          refine (do_calls g bd bc ba D w3 D3.out (by omega) ⟨2, i, j, fill, size, picks⟩ pv (P3.out.imp (fun b hb hn h => by have := FU.out b h; omega))).mono ?_
          rw [show doOp D ⟨2, i, j, fill, size, picks⟩ = (0, flush D) from rfl]
          rintro e w4 ⟨rfl, d4, f4⟩
          have hz4 := f4.size
          have b4 := (f4.block _ hblk3 HNB.out).trans B3.out
          have A4 := Lib.hid (A3.out.same (f4.block _ (by have := A3.out.lt; omega) FM.out))
          have G4 := Lib.hid (G3.out.trans (f4.mono fun q _ h => FU.out q h))
          obtain ⟨q0, q1, q2, q3, q4, q5⟩ := opC_cells b4
          clear b4
          simp only at q0 q1 q2 q3 q4 q5
          have D4 := Lib.hid d4; clear d4
          clear f4 HD D3 HA A3 P3
          go_wp2_with fail
          clear q0 q1 q2 q3 q4 q5
          have hn : gk + k = l.length := HM.out
          go_roundg (gk - 1)
          case measure => omega
          case rel => exact ⟨k + 1, flush D, L, by omega, by go_num, HI.out.flush, D4.out, A4.out, G4.out, by omega⟩
        · have hb1 : (kind != 1) = true := by simp [k1]
          have hb2 : (kind != 2) = true := by simp [k2]
          clear k1 k2
          go_wp2_with (first
            | (refine im_alloc_row rfl 48 rfl (zero48 _) ?_; intro w2 b2 f2 z2; have B2 := Lib.hid b2; clear b2; have Z2 := Lib.hid z2; clear z2)
            | (refine im_store_row rfl 48 _ _ rfl (vs := opC ⟨kind, i, j, fill, size, picks⟩ pv) rfl rfl B2.out rfl info48 (opC_one _ h1) ?_; intro w3 b3 f3 z3; obtain ⟨q0, q1, q2, q3, q4, q5⟩ := opC_cells b3; have B3 := Lib.hid b3; clear b3; have Z3 := Lib.hid z3; clear z3; simp only at q0 q1 q2 q3 q4 q5))
          clear q0 q1 q2 q3 q4 q5 e0 e1 e2 e3 e4 e5
          have hz2 := Z2.out
          have hz3 := Z3.out
          have g23 : Fr (fun q => wr.heap.size ≤ q) wr w3 := f2.trans' f3 (U := fun q => wr.heap.size ≤ q) (fun _ _ h => h.elim) (fun q hq h => by omega)
          have D3 := Lib.hid (HD.out.fr g23 (by have := HD.out.glt; omega) (fun _ => by omega) (by have := HD.out.cache.lt; omega) (by have := HD.out.armed.lt; omega))
          have A3 := Lib.hid (HA.out.same (g23.block _ (by have := HA.out.lt; omega) (by have := HA.out.lt; omega)))
          have G3 := Lib.hid (hfr.trans (g23.mono fun q _ h => by omega))
          have hn : gk + k = l.length := HM.out
          go_roundg (gk - 1)
          case measure => omega
          case rel => exact ⟨k + 1, D, L, by omega, by go_num, HI.out, D3.out, A3.out, G3.out, by omega⟩
    · go_wp2_with fail
      go_loopg [54] n (fun m t wq => ∃ k : Nat, m + k = n ∧ t = .int .i64 k ∧ Fr (fun _ => False) wr wq)
      case atStart => exact ⟨0, rfl, rfl, Fr.refl _ _⟩
      case round =>
        obtain ⟨q, hq, rfl, hf⟩ := hrel
        have D2 := Lib.hid (HD.out.keep hf)
        have A2 := Lib.hid (HA.out.same (hf.block _ HA.out.lt (fun h => h)))
        have G2 := Lib.hid (hfr.trans hf.none)
        have HQ := Lib.hid hq; clear hq
        have HF := Lib.hid hf
        clear hf
        by_cases hqn : q < n
        · have hlast := HI.out.last q hqn
          have hDq : ∃ s, D[q]? = some s ∧ cont s = (L q).getD (rp 0) := by
            unfold conts at hlast
            rw [List.getElem?_map] at hlast
            cases hs : D[q]? with
            | none => rw [hs] at hlast; cases hlast
            | some s => rw [hs] at hlast; exact ⟨s, rfl, Option.some.inj hlast⟩
          obtain ⟨s, hs, hcont⟩ := hDq
          clear hlast
          have hrd := read_at hs
          clear hs
          rw [hcont] at hrd
          clear hcont
          have HRD := Lib.hid hrd; clear hrd
          cases hL : L q with
          | some x =>
            obtain ⟨X, hX⟩ : ∃ X : ByteArray, X = ⟨x.toArray⟩ := ⟨_, rfl⟩
            have hv : (lastF L q).getD (.string ⟨#[]⟩) = .string X := by unfold lastF; rw [hL, hX]; rfl
            have hv2 : (lastF L q).isSome = true := by unfold lastF; rw [hL]; rfl
            have HV := Lib.hid hv; clear hv
            have HV2 := Lib.hid hv2; clear hv2
            have hr : Dsk0.read D q = (x, 0) := by have := HRD.out; rw [hL] at this; exact this
            have HR := Lib.hid hr; clear hr
            have HX := Lib.hid hX; clear hX
            clear hL HRD
            go_wp2_with fail
            refine (read_calls g bd bc ba D q _ D2.out).mono ?_; rintro e w2 ⟨rfl, f2⟩
            rw [HR.out]
            change _ ; rw [← HX.out]
            have hf2 := HF.out.trans f2
            have A3 := Lib.hid (A2.out.same (f2.block _ A2.out.lt (fun h => h)))
            go_wp2_with (first
              | (at_lookup; refine im_lookup_okv rfl _ _ 63 rfl mt63 kt (zero9 _) q rfl rfl A3.out (.string X) true HV.out HV2.out ?_))
            have hn : gk + q = n := HQ.out
            go_roundg (gk - 1)
            case measure => omega
            case rel => exact ⟨q + 1, by omega, by go_num, hf2⟩
          | none =>
            have hv : (lastF L q).getD (.string ⟨#[]⟩) = .string ⟨#[]⟩ := by unfold lastF; rw [hL]; rfl
            have hv2 : (lastF L q).isSome = false := by unfold lastF; rw [hL]; rfl
            have HV := Lib.hid hv; clear hv
            have HV2 := Lib.hid hv2; clear hv2
            have hr : Dsk0.read D q = (rp 0, 0) := by have := HRD.out; rw [hL] at this; exact this
            have HR := Lib.hid hr; clear hr
            clear hL HRD
            go_wp2_with fail
            refine (read_calls g bd bc ba D q _ D2.out).mono ?_; rintro e w2 ⟨rfl, f2⟩
            rw [HR.out]
            change _ ; rw [show (⟨(rp 0).toArray⟩ : ByteArray) = rps 0 from rfl]
            have A3 := Lib.hid (A2.out.same (f2.block _ A2.out.lt (fun h => h)))
            go_wp2_with (first
              | (at_lookup; refine im_lookup_okv rfl _ _ 63 rfl mt63 kt (zero9 _) q rfl rfl A3.out (.string ⟨#[]⟩) false HV.out HV2.out ?_))
            refine (rep_calls 0 w2).mono ?_; rintro e w3 ⟨rfl, f3⟩
            have hf3 := (HF.out.trans f2).trans f3
            go_wp2_with fail
            have hn : gk + q = n := HQ.out
            go_roundg (gk - 1)
            case measure => omega
            case rel => exact ⟨q + 1, by omega, by go_num, hf3⟩
        · go_wp2_with fail
          refine (sanity_calls _).mono ?_; rintro e w2 ⟨rfl, f2⟩
          go_wp2_with fail
          go_ret
          exact ⟨rfl, fr_below (G2.out.trans f2.none)⟩

theorem diskReads_walk (n : Int) (v : Value) (l : List DOp) (w : World) (hl : OpsAt w v l (fun b => b < w.heap.size)) :
    Calls Try.prog 7 #[.int .i64 n, v] w fun e w' => e = .returned (.bool true) ∧ Below w.heap.size w w' := by
  by_cases h : 0 ≤ n ∧ n ≤ 40 ∧ l.length ≤ 200
  · obtain ⟨n, rfl⟩ : ∃ k : Nat, n = k := ⟨n.toNat, by omega⟩
    exact diskReads_main n v l w hl (by omega) (by omega)
  · obtain ⟨a, c, rfl, -, -⟩ := hl
    have HF := Lib.hid h; clear h
    go_enter Try.func7, Try.ntmps7
    go_wp2_with fail
    refine (few_no n a l.length c w HF.out).mono ?_; rintro e w' ⟨rfl, rfl⟩
    go_wp2_with fail
    refine (sanity_calls w).mono ?_; rintro e w1 ⟨rfl, f1⟩
    go_wp2_with fail
    go_ret
    exact ⟨rfl, f1.below⟩

set_option maxRecDepth 100000 in
theorem diskReads_lifted (os : Os) (started : os.Started) (H : Type) (enc : TypeId × Value → H) :
    ReturnsInHanded {} Try.checked os 7 .any (Rows.diskReadsSpec.pre6 enc Try.prog Try.f7 Rows.diskReadsRow.domain false) (Rows.diskReadsSpec.post enc Try.prog Try.f7 false true false false) := by
  refine returnsInHanded_of_change (C := Try.checked) own started (by kernel_rfl) Try.func7
    (ChangeSpec.witness6 (enc := enc) (C := Try.checked) false ⟨#[], #[.int .i64 0, .slice none 0 0], []⟩ 8 (by kernel_rfl) (by kernel_rfl) (by kernel_rfl) (by kernel_rfl)) ?_
  intro W base args ds gs before hval0 hW hcnd _
  have hval : ∀ (j : Nat) t v, Try.f7.params[j]? = some t → args[j]? = some v → Value.okWide Try.prog W .any base t v := hval0
  have hW' := hW
  obtain ⟨p, q, hA0, hV, rfl, hfz, hnd⟩ := hW
  have hA : DataW.TrodAll enc Try.prog W 0 (fun _ => true) true Try.f7.params.toList args.toList ds p := hA0
  rw [Try.params7] at hA hval
  obtain ⟨v0, vs0, d0, ds0, p0, q0, hargs, rfl, rfl, h0, r0⟩ := trodAll_cons hA
  obtain ⟨v1, vs1, d1, ds1, p1, q1, rfl, rfl, rfl, h1, r1⟩ := trodAll_cons r0
  obtain ⟨rfl, rfl, rfl⟩ := trodAll_nil r1
  obtain rfl : args = #[v0, v1] := by cases args; simp_all
  obtain ⟨rfl, rfl⟩ := trodVars_none hV
  obtain ⟨a0, rfl, rfl, rfl, w0⟩ := open_int Try.underlying3 (hval 0 3 v0 rfl rfl) h0
  obtain ⟨b1, len1, cap1, rfl⟩ := okWide_slice Try.underlying39 (hval 1 39 v1 rfl rfl)
  obtain ⟨l1, hl1⟩ : ∃ l, OpsAt W (.slice b1 len1 cap1) l (fun b => b < W.heap.size) := by obtain ⟨fuel, hf⟩ := h1; exact ops_of_cells opTypes hf
  clear hA0 hval0
  refine (diskReads_walk a0 _ l1 W hl1).mono fun e W' ⟨he, hb⟩ => ?_
  subst he
  exact ⟨_, rfl, law_post laidOut Try.underlying4 hW' rfl rfl (by kernel_rfl) ⟨rfl, rfl, rfl⟩ hb⟩

/-- The statement. -/
theorem diskReads_proved : Rows.DiskReadsSaid :=
  OpenClaim.holds_of_wide 7 Try.f7 rfl rfl rfl rfl rfl rfl rfl ⟨rfl, rfl, rfl, rfl, rfl⟩ rfl rfl rfl rfl rfl (by kernel_rfl) Try.func7 (by kernel_rfl)
    (of_decide_eq_true (by kernel_rfl)) (by unfold Func.isWrapper; first | (rw [if_pos (by decide +kernel)]; kernel_rfl) | (rw [if_neg (by decide +kernel)]; exact ⟨rfl, rfl⟩))
    (fun os started H enc _ => diskReads_lifted os started H enc)
#print axioms diskReads_proved
end Go.Proofs.Ytmbkmfpnjpkakaa
