/- The shelf laws' helper alike answers true for a shelf and its reference. -/
import Derived.Test.YtmbkmfpnjpkakaaZ4
import Derived.Test.YtmbkmfpnjpkakaaX15
namespace Go.Proofs.Ytmbkmfpnjpkakaa
open Go.RowKit Go.Im Go.Dsk0

set_option maxRecDepth 100000 in
set_option maxHeartbeats 4000000 in
theorem alike_calls {w : World} {O R : Nat → Prop} {s t : Nat} {S : Shf0.Shelf} (h : ShelfAt w O s S) (hr : RShelfAt w R t S) (hsm : Shf0.small S.cfg = true) : Calls Try.prog 21 #[.pointer (some ⟨s, 0, none⟩), .pointer (some ⟨t, 0, none⟩)] w fun e w' => e = .returned (.bool true) ∧ Fr (fun _ => False) w w' := by
  have hv := h.ok.cfg
  obtain ⟨c, hc⟩ : ∃ c, c = S.cfg := ⟨_, rfl⟩
  have hcf := fun W (f : Fr (fun _ => False) w W) => config_calls (h.keep f)
  have hrc := fun W (f : Fr (fun _ => False) w W) => rconfig_calls (hr.keep f)
  have hup := fun W (f : Fr (fun _ => False) w W) => up_calls (h.keep f)
  have hru := fun W (f : Fr (fun _ => False) w W) => rup_calls (hr.keep f)
  have hst := fun W (f : Fr (fun _ => False) w W) d => state_calls (h.keep f) d
  have hrs := fun W (f : Fr (fun _ => False) w W) d => rstate_calls (hr.keep f) d
  have hpk := fun W (f : Fr (fun _ => False) w W) p => peek_calls (h.keep f) p
  have hrp := fun W (f : Fr (fun _ => False) w W) p => rpeek_calls (hr.keep f) p
  have hpl := fun W => places_calls c W (by rw [hc]; exact hv) (by rw [hc]; exact hsm)
  rw [← hc] at hv hsm hcf hrc
  obtain ⟨D, hD⟩ : ∃ D : Nat, c.disks = (D : Int) := ⟨c.disks.toNat, by have := hv.1.1; omega⟩
  have hD64 : D ≤ 64 := by have := hv.1.2; omega
  have hne := Shf0.places_ne hv
  have hple := Shf0.places_len hv hsm
  obtain ⟨pl, hpl'⟩ : ∃ pl, pl = Shf0.places c := ⟨_, rfl⟩
  unfold PlacesR at hpl
  rw [← hpl'] at hne hple hpl
  unfold cfgV at hcf hrc hpl
  obtain ⟨n0, n1, n2, n3, n4, n5⟩ := c
  simp only at hD hcf hrc hpl
  subst hD
  have HCF := Lib.hid hcf
  have HRC := Lib.hid hrc
  have HUP := Lib.hid hup
  have HRU := Lib.hid hru
  have HST := Lib.hid hst
  have HRS := Lib.hid hrs
  have HPK := Lib.hid hpk
  have HRP := Lib.hid hrp
  have HPL := Lib.hid hpl
  have HNE := Lib.hid hne
  clear hcf hrc hup hru hst hrs hpk hrp hpl hne hv hsm hc hpl' h hr
  obtain ⟨P, hPl⟩ : ∃ P, P = pl.length := ⟨_, rfl⟩
  rw [← hPl] at hple
  have HPLen := Lib.hid hPl; clear hPl
  go_enter Try.func21, Try.ntmps21
  go_wp2_with fail
  refine (HRC.out w (Fr.refl _ _)).mono ?_; rintro e w1 ⟨rfl, f1⟩
  go_wp2_with (first
    | (refine im_alloc_row rfl 23 rfl (zero23 _) ?_; intro w2 b2 f2 z2; have B2 := Lib.hid b2; clear b2; have Z2 := Lib.hid z2; clear z2)
    | (refine im_store_row rfl 23 _ _ rfl (vs := cfgA ⟨(D : Int), n1, n2, n3, n4, n5⟩) rfl rfl B2.out rfl info23 (cfgA_one _) ?_; intro w3 b3 f3 z3; obtain ⟨q0, q1, q2, q3, q4, q5⟩ := cfgA_cells b3; have hl3 := lt_of_blk b3; clear b3; have Z3 := Lib.hid z3; clear z3))
  have ff : Fr (fun _ => False) w w3 := (f1.trans f2).trans' f3 (fun _ _ h => h) (fun i hi h => by have := f1.size; omega)
  have FF := Lib.hid ff
  obtain ⟨tb, htb⟩ : ∃ tb, tb = w1.heap.size := ⟨_, rfl⟩
  try rw [← htb] at q0 q1 q2 q3 q4 q5 hl3
  try rw [← htb]
  clear f1 f2 f3 ff B2 Z2 Z3 htb
  refine wp_region_seq (fun W => W.cell? ⟨tb, 0, none⟩ = some (.int .i64 D) ∧ W.cell? ⟨tb, 1, none⟩ = some (.int .i64 n1) ∧ W.cell? ⟨tb, 2, none⟩ = some (.int .i64 n2) ∧ W.cell? ⟨tb, 3, none⟩ = some (.int .i64 n3) ∧ W.cell? ⟨tb, 4, none⟩ = some (.int .i64 n4) ∧ W.cell? ⟨tb, 5, none⟩ = some (.int .i64 n5)) [0, 2, 1, 3, 4, 5, 7, 6, 8, 9, 10] [1, 6, 8] (by kernel_rfl) (by kernel_rfl) (by kernel_rfl) ⟨q0, q1, q2, q3, q4, q5⟩ ?_
  simp only [pickOps, List.filterMap_cons, List.filterMap_nil, List.getElem?_toArray, List.getElem?_cons_zero, List.getElem?_cons_succ, Option.map_some]
  repeat (refine seqH_read (v := ?_) (by rfl) (by rfl) ?_ ?_; rotate_left; (focus (intro W hS; (try dsimp only at hS); obtain ⟨s0, s1, s2, s3, s4, s5⟩ := hS; go_simp; try with_reducible rfl)); simp only [Act.put, List.setIfInBounds_toArray, List.set_cons_zero, List.set_cons_succ])
  refine seqH_eff (by rfl) (by rfl) fun K hK => ?_
  refine wp_callC 68 #[.pointer (some ⟨s, 0, none⟩)] (by go_simp) (R := fun v w' => v = .agg #[.int .i64 D, .int .i64 n1, .int .i64 n2, .int .i64 n3, .int .i64 n4, .int .i64 n5] ∧ Fr (fun _ => False) w3 w') ((HCF.out w3.drew FF.out.drew).mono (by rintro e w' ⟨rfl, hf⟩; exact ⟨_, rfl, rfl, hf.undrew⟩)) ?_
  rintro v w4 ⟨rfl, f4⟩
  have F4 := Lib.hid (FF.out.trans f4)
  have r0 := (f4.cb hl3 (fun h => h)).trans q0
  have r1 := (f4.cb hl3 (fun h => h)).trans q1
  have r2 := (f4.cb hl3 (fun h => h)).trans q2
  have r3 := (f4.cb hl3 (fun h => h)).trans q3
  have r4 := (f4.cb hl3 (fun h => h)).trans q4
  have r5 := (f4.cb hl3 (fun h => h)).trans q5
  have hl4 := Nat.lt_of_lt_of_le hl3 f4.size
  refine hK.out _ _ ⟨r0, r1, r2, r3, r4, r5⟩ ?_
  simp only [Act.put, List.setIfInBounds_toArray, List.set_cons_zero, List.set_cons_succ]
  repeat (refine seqH_read (v := ?_) (by rfl) (by rfl) ?_ ?_; rotate_left; (focus (intro W hS; (try dsimp only at hS); obtain ⟨s0, s1, s2, s3, s4, s5⟩ := hS; go_simp; try with_reducible rfl)); simp only [Act.put, List.setIfInBounds_toArray, List.set_cons_zero, List.set_cons_succ])
  refine seqH_eff (by rfl) (by rfl) fun K hK => ?_
  refine wp_callC 50 #[.pointer (some ⟨s, 0, none⟩)] (by go_simp) (R := fun v w' => v = .bool (!S.off) ∧ w' = w4) ((HUP.out w4 F4.out).mono (by rintro e w' ⟨rfl, rfl⟩; exact ⟨_, rfl, rfl, rfl⟩)) ?_
  rintro v w5 ⟨rfl, rfl⟩
  refine hK.out _ _ ⟨r0, r1, r2, r3, r4, r5⟩ ?_
  simp only [Act.put, List.setIfInBounds_toArray, List.set_cons_zero, List.set_cons_succ]
  refine seqH_eff (by rfl) (by rfl) fun K hK => ?_
  refine wp_callC 69 #[.pointer (some ⟨t, 0, none⟩)] (by go_simp) (R := fun v w' => v = .bool (!S.off) ∧ w' = w5) ((HRU.out w5 F4.out).mono (by rintro e w' ⟨rfl, rfl⟩; exact ⟨_, rfl, rfl, rfl⟩)) ?_
  rintro v w6 ⟨rfl, rfl⟩
  refine hK.out _ _ ⟨r0, r1, r2, r3, r4, r5⟩ ?_
  simp only [Act.put, List.setIfInBounds_toArray, List.set_cons_zero, List.set_cons_succ]
  have hbo : ((!S.off) != (!S.off)) = false := by simp
  repeat (refine seqH_read (v := ?_) (by rfl) (by rfl) ?_ ?_; rotate_left; (focus (intro W hS; (try dsimp only at hS); obtain ⟨s0, s1, s2, s3, s4, s5⟩ := hS; go_simp; try with_reducible rfl)); simp only [Act.put, List.setIfInBounds_toArray, List.set_cons_zero, List.set_cons_succ])
  refine seqH_nil ?_
  clear hK f4 q0 q1 q2 q3 q4 q5 hl3
  go_wp2_with fail
  go_loopg [6] (D + 2) (fun m t6 wr => ∃ k : Nat, m + k = D + 2 ∧ t6 = .int .i64 ((k : Int) - 1) ∧ wr = w6)
  case atStart => exact ⟨0, rfl, rfl, rfl⟩
  case round =>
    obtain ⟨k, hm, rfl, hwr⟩ := hrel
    subst hwr
    have HM := Lib.hid hm; clear hm
    by_cases hk : k < D + 2
    · have hk1 : (k : Int) - 1 ≤ D := by omega
      have hs1 := HST.out wr F4.out ((k : Int) - 1)
      have hs2 := HRS.out wr F4.out ((k : Int) - 1)
      obtain ⟨st, hst⟩ : ∃ st, st = Shf0.state S ((k : Int) - 1) := ⟨_, rfl⟩
      rw [← hst] at hs1 hs2
      clear hst
      have hbs : (st != st) = false := by simp
      have hk2 : (k : Int) ≤ 66 := by omega
      go_wp2_with fail
      refine hs1.mono ?_; rintro e w' ⟨rfl, rfl⟩
      go_wp2_with fail
      refine hs2.mono ?_; rintro e w' ⟨rfl, rfl⟩
      clear hs1 hs2
      go_wp2_with fail
      have hn : gk + k = D + 2 := HM.out
      go_roundg (gk - 1)
      case measure => omega
      case rel => exact ⟨k + 1, by omega, by go_num, rfl⟩
    · have hk1 : ¬ (k : Int) - 1 ≤ D := by have := HM.out; omega
      clear hk
      go_wp2_with fail
      refine (HPL.out wr).mono ?_; rintro e w7 ⟨v7, rfl, r7, f7⟩
      rw [← HPLen.out] at r7
      obtain ⟨gb, vc, rfl, hgb1, hgb2, hpc⟩ := row_plcs (l := pl) (by rw [← HPLen.out]; exact r7) HNE.out
      rw [← HPLen.out]
      have HPC := Lib.hid hpc; clear hpc r7
      have F7 := Lib.hid (F4.out.trans f7)
      clear f7 r0 r1 r2 r3 r4 r5 hl4 hk1
      go_wp2_with fail
      go_loopg [8] P (fun m t8 wr => ∃ j : Nat, m + j = P ∧ t8 = .int .i64 j ∧ Fr (fun _ => False) w7 wr)
      case atStart => exact ⟨0, rfl, rfl, Fr.refl _ _⟩
      case round =>
        obtain ⟨j, hm, rfl, hfr⟩ := hrel
        have HM2 := Lib.hid hm; clear hm
        have HFR := Lib.hid hfr; clear hfr
        by_cases hj : j < P
        · have hj1 : (j : Int) < P := by omega
          obtain ⟨p, hp⟩ : ∃ p, pl[j]? = some p := ⟨_, List.getElem?_eq_getElem (by rw [← HPLen.out]; exact hj)⟩
          obtain ⟨e0, e1, e2⟩ := HPC.out j p hp
          have e0 := (HFR.out.cb hgb2 (fun h => h)).trans e0
          have e1 := (HFR.out.cb hgb2 (fun h => h)).trans e1
          have e2 := (HFR.out.cb hgb2 (fun h => h)).trans e2
          clear hp
          obtain ⟨b, hb⟩ : ∃ b, b = (Shf0.peek S p).2 := ⟨_, rfl⟩
          obtain ⟨RB, hRB⟩ : ∃ RB : ByteArray, RB = ⟨(Shf0.peek S p).1.toArray⟩ := ⟨_, rfl⟩
          have hp1 := HPK.out _ (F7.out.trans HFR.out) p
          rw [← hb, ← hRB] at hp1
          have hp2 := fun W hW => HRP.out W ((F7.out.trans HFR.out).trans hW) p
          rw [← hb, ← hRB] at hp2
          have HP2 := Lib.hid hp2; clear hp2 hb hRB
          go_wp2_with fail
          refine hp1.mono ?_; rintro e w8 ⟨rfl, f8⟩
          clear hp1
          have hgbr := Nat.lt_of_lt_of_le hgb2 HFR.out.size
          have c0 := (f8.cb hgbr (fun h => h)).trans e0
          have c1 := (f8.cb hgbr (fun h => h)).trans e1
          have c2 := (f8.cb hgbr (fun h => h)).trans e2
          have HF8 := Lib.hid f8; clear f8 e0 e1 e2
          go_wp2_with fail
          refine (HP2.out w8 HF8.out).mono ?_; rintro e w9 ⟨rfl, f9⟩
          have HF9 := Lib.hid ((HFR.out.trans HF8.out).trans f9)
          clear f9 c0 c1 c2
          have hbb : (RB.toList == RB.toList) = true := beq_self_eq_true _
          have hni : gk + j = P := HM2.out
          go_wp2_with fail
          go_roundg (gk - 1)
          case measure => omega
          case rel => exact ⟨j + 1, by omega, by go_num, HF9.out⟩
        · have hjn : j = P := by have := HM2.out; omega
          subst hjn
          clear hj
          go_wp2_with fail
          go_ret
          exact ⟨rfl, F7.out.trans HFR.out⟩
end Go.Proofs.Ytmbkmfpnjpkakaa
