/- 'solventlaw17.ShelfFlushedSurvives' answers true for every input, and its arguments read as before; no condition. -/
import Derived.Test.YtmbkmfpnjpkakaaY3
namespace Go.Proofs.Ytmbkmfpnjpkakaa
open Go.ChangeShapes Go.WideShapes Go.ChangeAt Go.RowKit Go.Im Go.Dsk0

set_option maxRecDepth 100000 in
set_option maxHeartbeats 4000000 in
theorem shelfSurvives_walk (c : Shf0.Cfg) (l : List Shf0.SOp) (v : Value) (n3 : Int) (pa : Option Addr) (pc : Nat) (zs : List Int) (d : Int) (w : World) (hl : SOpsAt w v l (fun b => b < w.heap.size)) (hz : IntsAt w (.slice pa zs.length pc) zs (fun b => b < w.heap.size)) (hzc : zs.length ≤ pc) :
    Calls Try.prog 14 #[.agg (playsA c v n3), .slice pa zs.length pc, .int .i64 d] w fun e w' => e = .returned (.bool true) ∧ Fr (fun _ => False) w w' := by
  have HL := Lib.hid hl
  have HZ := Lib.hid hz
  have HZC := Lib.hid hzc
  clear hl hz hzc
  obtain ⟨ZN, hZN⟩ : ∃ ZN, ZN = zs.length := ⟨_, rfl⟩
  rw [← hZN] at HZ ⊢
  have HZN := Lib.hid hZN
  clear hZN
  have hbl := fun W h => built_calls c l v W h
  have hpl := fun W h1 h2 => places_calls c W h1 h2
  unfold cfgV at hbl hpl
  have HBL := Lib.hid hbl; clear hbl
  have HPL := Lib.hid hpl; clear hpl
  unfold playsA
  go_enter Try.func14, Try.ntmps14
  go_wp2_with (first
    | (refine im_box rfl 77 _ rfl rfl ?_; intro w1 b1 f1 z1; have Z1 := Lib.hid z1; clear z1; have p0 : w1.cell? ⟨w.heap.size, 0, none⟩ = some (.int .i64 c.disks) := cell_of_blk b1; have p1 : w1.cell? ⟨w.heap.size, 1, none⟩ = some (.int .i64 c.racks) := cell_of_blk b1; have p2 : w1.cell? ⟨w.heap.size, 2, none⟩ = some (.int .i64 c.rows) := cell_of_blk b1; have p3 : w1.cell? ⟨w.heap.size, 3, none⟩ = some (.int .i64 c.spare) := cell_of_blk b1; have p4 : w1.cell? ⟨w.heap.size, 4, none⟩ = some (.int .i64 c.log) := cell_of_blk b1; have p5 : w1.cell? ⟨w.heap.size, 5, none⟩ = some (.int .i64 c.image) := cell_of_blk b1; have p6 : w1.cell? ⟨w.heap.size, 6, none⟩ = some v := cell_of_blk b1; have hl1 := lt_of_blk b1; clear b1))
  refine (ssanity_calls w1).mono ?_; rintro e w2 ⟨rfl, f2⟩
  have q0 := (f2.cb hl1 (fun h => h)).trans p0
  have q1 := (f2.cb hl1 (fun h => h)).trans p1
  have q2 := (f2.cb hl1 (fun h => h)).trans p2
  have q3 := (f2.cb hl1 (fun h => h)).trans p3
  have q4 := (f2.cb hl1 (fun h => h)).trans p4
  have q5 := (f2.cb hl1 (fun h => h)).trans p5
  have q6 := (f2.cb hl1 (fun h => h)).trans p6
  have hl2 := Nat.lt_of_lt_of_le hl1 f2.size
  have f12 := f1.trans f2
  clear p0 p1 p2 p3 p4 p5 p6 hl1
  have HL2 := Lib.hid (HL.out.grow f12)
  have F2 := Lib.hid f12
  clear f12 f1 f2
  go_wp2_with fail
  refine (HBL.out w2 HL2.out).mono ?_
  rintro e w3 (⟨-, rfl, f3⟩ | ⟨hv, hsm, hl60, s, rfl, h3, f3⟩)
  · go_wp2_with fail
    go_ret
    exact ⟨rfl, F2.out.trans f3⟩
  have HL60 := Lib.hid hl60; clear hl60
  clear HBL HL2 HL q6
  have r0 := (f3.cb hl2 (fun h => h)).trans q0
  have r1 := (f3.cb hl2 (fun h => h)).trans q1
  have r2 := (f3.cb hl2 (fun h => h)).trans q2
  have r3 := (f3.cb hl2 (fun h => h)).trans q3
  have r4 := (f3.cb hl2 (fun h => h)).trans q4
  have r5 := (f3.cb hl2 (fun h => h)).trans q5
  have hl3 := Nat.lt_of_lt_of_le hl2 f3.size
  have F3 := Lib.hid (F2.out.trans f3)
  have H3 := Lib.hid h3; clear h3
  have HNO : Hid (∀ q, q < w2.heap.size → ¬ (w2.heap.size ≤ q ∧ q < w3.heap.size)) := Lib.hid (fun q h1 h2 => by omega)
  have HNW : Hid (∀ q, q < w.heap.size → ¬ (w2.heap.size ≤ q ∧ q < w3.heap.size)) := Lib.hid (fun q h1 h2 => by have := F2.out.size; omega)
  obtain ⟨S, hS⟩ : ∃ S, S = Shf0.play (Shf0.newS c) l := ⟨_, rfl⟩
  rw [← hS] at H3
  have hSc : S.cfg = c := by rw [hS]; exact Shf0.play_cfg l _
  have hSi : S.images.length ≤ 100 := by
    have h1 := Shf0.play_images l (Shf0.newS c)
    have h2 : (Shf0.newS c).images.length = 0 := rfl
    have h3 := HL60.out
    rw [hS]; omega
  have HZ3 := Lib.hid f3.size
  clear hS f3 q0 q1 q2 q3 q4 q5
  have HSC := Lib.hid hSc; clear hSc
  have HSI := Lib.hid hSi; clear hSi
  have HV := Lib.hid (And.intro hv hsm)
  clear hv hsm
  by_cases hzn : 200 < ZN
  · have hzn1 : (200 : Int) < ZN := by omega
    go_wp2_with fail
    go_ret
    exact ⟨rfl, F3.out⟩
  have hzn1 : ¬ (200 : Int) < ZN := by omega
  go_wp2_with fail
  refine (mount_calls H3.out none 0 [] (nil_ints _ _) (by simp)).mono ?_; rintro e w4 ⟨rfl, s4, f4⟩
  have H4 := Lib.hid s4; clear s4
  obtain ⟨M, hM⟩ : ∃ M, M = Shf0.mount S [] := ⟨_, rfl⟩
  rw [← hM] at H4
  have HCALM := Lib.hid (show Shf0.Calm M by rw [hM]; exact Shf0.mount_calm S [])
  have HMC := Lib.hid (show M.cfg = c by rw [hM]; exact HSC.out)
  have HMI := Lib.hid (show M.images.length ≤ 100 by rw [hM]; exact HSI.out)
  have HOK := Lib.hid H4.out.ok
  clear hM
  have q0 := (f4.cb hl3 (HNO.out _ hl2)).trans r0
  have q1 := (f4.cb hl3 (HNO.out _ hl2)).trans r1
  have q2 := (f4.cb hl3 (HNO.out _ hl2)).trans r2
  have q3 := (f4.cb hl3 (HNO.out _ hl2)).trans r3
  have q4 := (f4.cb hl3 (HNO.out _ hl2)).trans r4
  have q5 := (f4.cb hl3 (HNO.out _ hl2)).trans r5
  have hl4 := Nat.lt_of_lt_of_le hl3 f4.size
  have F4 := Lib.hid (F3.out.trans' f4 (U := fun _ => False) (fun _ _ h => h) (fun i hi h => HNW.out _ hi h))
  have hz4 := f4.size
  clear f4 r0 r1 r2 r3 r4 r5
  have hfa := flushAll_calls H4.out
  rw [Shf0.flushAll_same HCALM.out] at hfa
  go_wp2_with fail
  refine hfa.mono ?_; rintro e w5 ⟨rfl, s5, f5⟩
  clear hfa
  have H5 := Lib.hid s5; clear s5
  have r0 := (f5.cb hl4 (HNO.out _ hl2)).trans q0
  have r1 := (f5.cb hl4 (HNO.out _ hl2)).trans q1
  have r2 := (f5.cb hl4 (HNO.out _ hl2)).trans q2
  have r3 := (f5.cb hl4 (HNO.out _ hl2)).trans q3
  have r4 := (f5.cb hl4 (HNO.out _ hl2)).trans q4
  have r5 := (f5.cb hl4 (HNO.out _ hl2)).trans q5
  have hl5 := Nat.lt_of_lt_of_le hl4 f5.size
  have F5 := Lib.hid (F4.out.trans' f5 (U := fun _ => False) (fun _ _ h => h) (fun i hi h => HNW.out _ hi h))
  have hz5 := f5.size
  clear f5 q0 q1 q2 q3 q4 q5
  go_wp2_with fail
  refine (sclone'_calls H5.out (by have := HMI.out; omega)).mono ?_
  rintro e w6 ⟨cs, rfl, c6, f6⟩
  have H6 := Lib.hid (H5.out.keep f6)
  have C6 := Lib.hid c6; clear c6
  have F6 := Lib.hid (F5.out.trans f6)
  have q0 := (f6.cb hl5 (fun h => h)).trans r0
  have q1 := (f6.cb hl5 (fun h => h)).trans r1
  have q2 := (f6.cb hl5 (fun h => h)).trans r2
  have q3 := (f6.cb hl5 (fun h => h)).trans r3
  have q4 := (f6.cb hl5 (fun h => h)).trans r4
  have q5 := (f6.cb hl5 (fun h => h)).trans r5
  clear r0 r1 r2 r3 r4 r5
  have hl6 := Nat.lt_of_lt_of_le hl5 f6.size
  have hz6 := f6.size
  clear f6
  have hmt := mount_calls H6.out pa pc zs ((by rw [← HZN.out]; exact HZ.out.fr F6.out (fun _ _ _ h => h) : IntsAt w6 (.slice pa zs.length pc) zs (fun b => b < w.heap.size)).imp (fun q _ hq => HNW.out q hq)) HZC.out
  rw [← HZN.out, Shf0.mount_same HCALM.out] at hmt
  go_wp2_with fail
  refine hmt.mono ?_; rintro e w7 ⟨rfl, s7, f7⟩
  clear hmt
  have H7 := Lib.hid s7; clear s7
  have HD := Lib.hid (show ∀ q, w5.heap.size ≤ q ∧ q < w6.heap.size → ¬ (w2.heap.size ≤ q ∧ q < w3.heap.size) from fun q h1 h2 => by omega)
  have C7 := Lib.hid (C6.out.fr f7 HD.out)
  have F7 := Lib.hid (F6.out.trans' f7 (U := fun _ => False) (fun _ _ h => h) (fun i hi h => HNW.out _ hi h))
  have r0 := (f7.cb hl6 (HNO.out _ hl2)).trans q0
  have r1 := (f7.cb hl6 (HNO.out _ hl2)).trans q1
  have r2 := (f7.cb hl6 (HNO.out _ hl2)).trans q2
  have r3 := (f7.cb hl6 (HNO.out _ hl2)).trans q3
  have r4 := (f7.cb hl6 (HNO.out _ hl2)).trans q4
  have r5 := (f7.cb hl6 (HNO.out _ hl2)).trans q5
  clear q0 q1 q2 q3 q4 q5
  have hl7 := Nat.lt_of_lt_of_le hl6 f7.size
  have hz7 := f7.size
  clear f7
  have HZ7 : Hid (w.heap.size ≤ w2.heap.size ∧ w2.heap.size ≤ w3.heap.size ∧ w3.heap.size ≤ w5.heap.size ∧ w5.heap.size ≤ w6.heap.size ∧ w6.heap.size ≤ w7.heap.size) := Lib.hid ⟨F2.out.size, HZ3.out, by omega, by omega, by omega⟩
  have hrm := remove_calls H7.out d (by have := HMI.out; omega)
  clear hz4 hz5 hz6 hz7 hl3 hl4 hl5 hl6
  by_cases hst : Shf0.state M d = 1
  · rw [Shf0.remove_ok HCALM.out hst] at hrm
    simp only at hrm
    obtain ⟨NI, hNI⟩ : ∃ NI : Nat, NI = M.images.length := ⟨_, rfl⟩
    obtain ⟨X, hX⟩ : ∃ X : Shf0.Shelf, X = { M with images := M.images ++ [Shf0.bayD M d.toNat] } := ⟨_, rfl⟩
    obtain ⟨R, hR⟩ : ∃ R : Shf0.Shelf, R = { M with bays := M.bays.set d.toNat ⟨Dsk0.new 0, 2⟩, images := M.images ++ [Shf0.bayD M d.toNat] } := ⟨_, rfl⟩
    have hR2 : Shf0.state R d = 2 := by rw [hR]; exact Shf0.removed_state hst _
    have hin : Shf0.insert R d NI = (0, X) := by rw [hR, hX, hNI]; exact Shf0.insert_back hst
    have hXs : ∀ q, Shf0.state X q = Shf0.state M q := fun q => by rw [hX]; rfl
    have hXp : ∀ p, Shf0.peek X p = Shf0.peek M p := fun p => by rw [hX]; rfl
    rw [← hNI, ← hR] at hrm
    have HR2 := Lib.hid hR2
    have HIN := Lib.hid hin
    have HXS := Lib.hid hXs
    have HXP := Lib.hid hXp
    have HST := Lib.hid hst
    clear hR2 hin hXs hXp hst hNI hX hR
    go_wp2_with fail
    refine hrm.mono ?_; rintro e w8 ⟨rfl, s8, f8⟩
    clear hrm
    have H8 := Lib.hid s8; clear s8
    have C8 := Lib.hid (C7.out.fr f8 HD.out)
    have F8 := Lib.hid (F7.out.trans' f8 (U := fun _ => False) (fun _ _ h => h) (fun i hi h => HNW.out _ hi h))
    have q0 := (f8.cb hl7 (HNO.out _ hl2)).trans r0
    have q1 := (f8.cb hl7 (HNO.out _ hl2)).trans r1
    have q2 := (f8.cb hl7 (HNO.out _ hl2)).trans r2
    have q3 := (f8.cb hl7 (HNO.out _ hl2)).trans r3
    have q4 := (f8.cb hl7 (HNO.out _ hl2)).trans r4
    have q5 := (f8.cb hl7 (HNO.out _ hl2)).trans r5
    clear r0 r1 r2 r3 r4 r5
    have hl8 := Nat.lt_of_lt_of_le hl7 f8.size
    have hz8 := f8.size
    have HZ8 : Hid (w7.heap.size ≤ w8.heap.size) := Lib.hid hz8
    clear f8 hz8
    have hs2 := state_calls H8.out d
    rw [HR2.out] at hs2
    have hic := insert_calls H8.out d NI
    rw [HIN.out] at hic
    go_wp2_with fail
    refine hs2.mono ?_; rintro e w' ⟨rfl, rfl⟩
    clear hs2
    go_wp2_with fail
    refine hic.mono ?_; rintro e w9 ⟨rfl, s9, f9⟩
    clear hic
    have H9 := Lib.hid s9; clear s9
    have C9 := Lib.hid (C8.out.fr f9 (fun q h1 h2 => h2.elim (HD.out q h1) (fun h3 => by have := HZ7.out; omega)))
    have F9 := Lib.hid (F8.out.trans' f9 (U := fun _ => False) (fun _ _ h => h) (fun i hi h => h.elim (HNW.out _ hi) (fun h3 => by have := HZ7.out; omega)))
    have hng : ¬ (grow (fun q => w2.heap.size ≤ q ∧ q < w3.heap.size) w7 w8 w.heap.size) := fun h => h.elim (HNO.out _ hl2) (fun h3 => by have := HZ7.out; omega)
    have r0 := (f9.cb hl8 hng).trans q0
    have r1 := (f9.cb hl8 hng).trans q1
    have r2 := (f9.cb hl8 hng).trans q2
    have r3 := (f9.cb hl8 hng).trans q3
    have r4 := (f9.cb hl8 hng).trans q4
    have r5 := (f9.cb hl8 hng).trans q5
    clear q0 q1 q2 q3 q4 q5
    have hl9 := Nat.lt_of_lt_of_le hl8 f9.size
    clear f9 hng
    have hs1 := state_calls H9.out d
    rw [HXS.out, HST.out] at hs1
    go_wp2_with fail
    refine hs1.mono ?_; rintro e w' ⟨rfl, rfl⟩
    clear hs1
    go_wp2_with fail
    refine (HPL.out w9 HV.out.1 HV.out.2).mono ?_; rintro e w10 ⟨v10, rfl, r10, f10⟩
    obtain ⟨gb, vc, rfl, hgb1, hgb2, hpc⟩ := row_plcs r10 (Shf0.places_ne HV.out.1)
    have HPC := Lib.hid hpc; clear hpc r10
    have H10 := Lib.hid (H9.out.keep f10)
    have C10 := Lib.hid (C9.out.keep f10)
    have F10 := Lib.hid (F9.out.trans f10)
    clear f10
    obtain ⟨pl, hpl⟩ : ∃ pl, pl = Shf0.places c := ⟨_, rfl⟩
    rw [← hpl] at HPC ⊢
    have hP : pl.length ≤ 1000 := by rw [hpl]; exact Shf0.places_len HV.out.1 HV.out.2
    clear hpl
    obtain ⟨P, hPl⟩ : ∃ P, P = pl.length := ⟨_, rfl⟩
    rw [← hPl] at hP ⊢
    have HPL' := Lib.hid hPl; clear hPl
    go_wp2_with fail
    go_loopg [14] P (fun m t wr => ∃ k : Nat, m + k = P ∧ t = .int .i64 k ∧ Fr (fun _ => False) w10 wr)
    case atStart => exact ⟨0, rfl, rfl, Fr.refl _ _⟩
    case round =>
      obtain ⟨k, hm, rfl, hfr⟩ := hrel
      have HM := Lib.hid hm; clear hm
      have HFR := Lib.hid hfr; clear hfr
      by_cases hk : k < P
      · have hk1 : (k : Int) < P := by omega
        have hkl : k < pl.length := by rw [← HPL'.out]; exact hk
        obtain ⟨p, hp⟩ : ∃ p, pl[k]? = some p := ⟨_, List.getElem?_eq_getElem hkl⟩
        obtain ⟨e0, e1, e2⟩ := HPC.out k p hp
        have e0 := (HFR.out.cb hgb2 (fun h => h)).trans e0
        have e1 := (HFR.out.cb hgb2 (fun h => h)).trans e1
        have e2 := (HFR.out.cb hgb2 (fun h => h)).trans e2
        clear hp hkl
        obtain ⟨b, hb⟩ : ∃ b, b = (Shf0.peek M p).2 := ⟨_, rfl⟩
        obtain ⟨RB, hRB⟩ : ∃ RB : ByteArray, RB = ⟨(Shf0.peek M p).1.toArray⟩ := ⟨_, rfl⟩
        have hpk := peek_calls (H10.out.keep HFR.out) p
        rw [HXP.out] at hpk
        rw [← hb, ← hRB] at hpk
        have hpc := fun W hW => peek_calls (C10.out.keep (w' := W) (HFR.out.trans hW)) p
        rw [← hb, ← hRB] at hpc
        have HPKC := Lib.hid hpc; clear hpc hb hRB
        go_wp2_with fail
        refine hpk.mono ?_; rintro e w11 ⟨rfl, f11⟩
        clear hpk
        have hgbr := Nat.lt_of_lt_of_le hgb2 HFR.out.size
        have c0 := (f11.cb hgbr (fun h => h)).trans e0
        have c1 := (f11.cb hgbr (fun h => h)).trans e1
        have c2 := (f11.cb hgbr (fun h => h)).trans e2
        have HF11 := Lib.hid f11; clear f11 e0 e1 e2
        go_wp2_with fail
        refine (HPKC.out w11 HF11.out).mono ?_; rintro e w12 ⟨rfl, f12⟩
        have HF12 := Lib.hid ((HFR.out.trans HF11.out).trans f12)
        clear f12 c0 c1 c2
        have hbb : (RB.toList == RB.toList) = true := beq_self_eq_true _
        have hni : gk + k = P := HM.out
        go_wp2_with fail
        go_roundg (gk - 1)
        case measure => omega
        case rel => exact ⟨k + 1, by omega, by go_num, HF12.out⟩
      · have hkn : k = P := by have := HM.out; omega
        subst hkn
        clear hk
        have hsc := state_calls (C10.out.keep HFR.out) d
        rw [HST.out] at hsc
        go_wp2_with fail
        refine hsc.mono ?_; rintro e w' ⟨rfl, rfl⟩
        clear hsc
        go_wp2_with fail
        go_ret
        exact ⟨rfl, F10.out.trans HFR.out⟩
  · obtain ⟨hne, hsame⟩ := Shf0.remove_no hst
    rw [hsame] at hrm
    obtain ⟨E1, hE1⟩ : ∃ E1, E1 = (Shf0.remove M d).1 := ⟨_, rfl⟩
    obtain ⟨E2, hE2⟩ : ∃ E2, E2 = (Shf0.remove M d).2.1 := ⟨_, rfl⟩
    rw [← hE1, ← hE2] at hrm
    rw [← hE2] at hne
    have HST := Lib.hid hst
    clear hsame hE1 hE2 hst
    go_wp2_with fail
    refine hrm.mono ?_; rintro e w8 ⟨rfl, s8, f8⟩
    clear hrm
    have H8 := Lib.hid s8; clear s8
    have C8 := Lib.hid (C7.out.fr f8 HD.out)
    have F8 := Lib.hid (F7.out.trans' f8 (U := fun _ => False) (fun _ _ h => h) (fun i hi h => HNW.out _ hi h))
    have q0 := (f8.cb hl7 (HNO.out _ hl2)).trans r0
    have q1 := (f8.cb hl7 (HNO.out _ hl2)).trans r1
    have q2 := (f8.cb hl7 (HNO.out _ hl2)).trans r2
    have q3 := (f8.cb hl7 (HNO.out _ hl2)).trans r3
    have q4 := (f8.cb hl7 (HNO.out _ hl2)).trans r4
    have q5 := (f8.cb hl7 (HNO.out _ hl2)).trans r5
    clear r0 r1 r2 r3 r4 r5
    clear f8
    go_wp2_with fail
    refine (HPL.out w8 HV.out.1 HV.out.2).mono ?_; rintro e w10 ⟨v10, rfl, r10, f10⟩
    obtain ⟨gb, vc, rfl, hgb1, hgb2, hpc⟩ := row_plcs r10 (Shf0.places_ne HV.out.1)
    have HPC := Lib.hid hpc; clear hpc r10
    have H10 := Lib.hid (H8.out.keep f10)
    have C10 := Lib.hid (C8.out.keep f10)
    have F10 := Lib.hid (F8.out.trans f10)
    clear f10
    obtain ⟨pl, hpl⟩ : ∃ pl, pl = Shf0.places c := ⟨_, rfl⟩
    rw [← hpl] at HPC ⊢
    have hP : pl.length ≤ 1000 := by rw [hpl]; exact Shf0.places_len HV.out.1 HV.out.2
    clear hpl
    obtain ⟨P, hPl⟩ : ∃ P, P = pl.length := ⟨_, rfl⟩
    rw [← hPl] at hP ⊢
    have HPL' := Lib.hid hPl; clear hPl
    go_wp2_with fail
    go_loopg [14] P (fun m t wr => ∃ k : Nat, m + k = P ∧ t = .int .i64 k ∧ Fr (fun _ => False) w10 wr)
    case atStart => exact ⟨0, rfl, rfl, Fr.refl _ _⟩
    case round =>
      obtain ⟨k, hm, rfl, hfr⟩ := hrel
      have HM := Lib.hid hm; clear hm
      have HFR := Lib.hid hfr; clear hfr
      by_cases hk : k < P
      · have hk1 : (k : Int) < P := by omega
        have hkl : k < pl.length := by rw [← HPL'.out]; exact hk
        obtain ⟨p, hp⟩ : ∃ p, pl[k]? = some p := ⟨_, List.getElem?_eq_getElem hkl⟩
        obtain ⟨e0, e1, e2⟩ := HPC.out k p hp
        have e0 := (HFR.out.cb hgb2 (fun h => h)).trans e0
        have e1 := (HFR.out.cb hgb2 (fun h => h)).trans e1
        have e2 := (HFR.out.cb hgb2 (fun h => h)).trans e2
        clear hp hkl
        obtain ⟨b, hb⟩ : ∃ b, b = (Shf0.peek M p).2 := ⟨_, rfl⟩
        obtain ⟨RB, hRB⟩ : ∃ RB : ByteArray, RB = ⟨(Shf0.peek M p).1.toArray⟩ := ⟨_, rfl⟩
        have hpk := peek_calls (H10.out.keep HFR.out) p
        rw [← hb, ← hRB] at hpk
        have hpc := fun W hW => peek_calls (C10.out.keep (w' := W) (HFR.out.trans hW)) p
        rw [← hb, ← hRB] at hpc
        have HPKC := Lib.hid hpc; clear hpc hb hRB
        go_wp2_with fail
        refine hpk.mono ?_; rintro e w11 ⟨rfl, f11⟩
        clear hpk
        have hgbr := Nat.lt_of_lt_of_le hgb2 HFR.out.size
        have c0 := (f11.cb hgbr (fun h => h)).trans e0
        have c1 := (f11.cb hgbr (fun h => h)).trans e1
        have c2 := (f11.cb hgbr (fun h => h)).trans e2
        have HF11 := Lib.hid f11; clear f11 e0 e1 e2
        go_wp2_with fail
        refine (HPKC.out w11 HF11.out).mono ?_; rintro e w12 ⟨rfl, f12⟩
        have HF12 := Lib.hid ((HFR.out.trans HF11.out).trans f12)
        clear f12 c0 c1 c2
        have hbb : (RB.toList == RB.toList) = true := beq_self_eq_true _
        have hni : gk + k = P := HM.out
        go_wp2_with fail
        go_roundg (gk - 1)
        case measure => omega
        case rel => exact ⟨k + 1, by omega, by go_num, HF12.out⟩
      · have hkn : k = P := by have := HM.out; omega
        subst hkn
        clear hk
        have hsc := state_calls (C10.out.keep HFR.out) d
        have hst := HST.out
        obtain ⟨st, hst'⟩ : ∃ st, st = Shf0.state M d := ⟨_, rfl⟩
        rw [← hst'] at hsc hst
        clear hst'
        go_wp2_with fail
        refine hsc.mono ?_; rintro e w' ⟨rfl, rfl⟩
        clear hsc
        go_wp2_with fail
        have hbq : ((E2 == 0) == (st == 1)) = true := by
          rw [beq_eq_false_iff_ne.2 hne, beq_eq_false_iff_ne.2 hst]; rfl
        rw [hbq]
        go_ret
        exact ⟨rfl, F10.out.trans HFR.out⟩

set_option maxRecDepth 100000 in
theorem shelfFlushedSurvives_lifted (os : Os) (started : os.Started) (H : Type) (enc : TypeId × Value → H) :
    ReturnsInHanded {} Try.checked os 14 .any (Rows.shelfFlushedSurvivesSpec.pre6 enc Try.prog Try.f14 Rows.shelfFlushedSurvivesRow.domain false) (Rows.shelfFlushedSurvivesSpec.post enc Try.prog Try.f14 false true false false) := by
  refine returnsInHanded_of_change (C := Try.checked) own started (by kernel_rfl) Try.func14
    (ChangeSpec.witness6 (enc := enc) (C := Try.checked) false ⟨#[], #[.agg #[.int .i64 0, .int .i64 0, .int .i64 0, .int .i64 0, .int .i64 0, .int .i64 0, .slice none 0 0, .int .i64 0], .slice none 0 0, .int .i64 0], []⟩ 8 (by kernel_rfl) (by kernel_rfl) (by kernel_rfl) (by kernel_rfl)) ?_
  intro W base args ds gs before hval0 hW hcnd _
  have hval : ∀ (j : Nat) t v, Try.f14.params[j]? = some t → args[j]? = some v → Value.okWide Try.prog W .any base t v := hval0
  have hW' := hW
  obtain ⟨p, q, hA0, hV, rfl, hfz, hnd⟩ := hW
  have hA : DataW.TrodAll enc Try.prog W 0 (fun _ => true) true Try.f14.params.toList args.toList ds p := hA0
  rw [Try.params14] at hA hval
  obtain ⟨v0, vs0, d0, ds0, p0, q0, hargs, rfl, rfl, h0, r0⟩ := trodAll_cons hA
  obtain ⟨v1, vs1, d1, ds1, p1, q1, rfl, rfl, rfl, h1, r1⟩ := trodAll_cons r0
  obtain ⟨v2, vs2, d2, ds2, p2, q2, rfl, rfl, rfl, h2, r2⟩ := trodAll_cons r1
  obtain ⟨rfl, rfl, rfl⟩ := trodAll_nil r2
  obtain rfl : args = #[v0, v1, v2] := by cases args; simp_all
  obtain ⟨rfl, rfl⟩ := trodVars_none hV
  obtain ⟨cs0, rfl, -⟩ := okWide_struct Try.underlying77 (hval 0 77 v0 rfl rfl)
  obtain ⟨c, sv, cn, sl, rfl, hsl⟩ : ∃ c v n l, cs0 = playsA c v n ∧ SOpsAt W v l (fun b => b < W.heap.size) := by obtain ⟨fuel, hf⟩ := h0; exact plays_of_cells hf
  obtain ⟨b1, len1, cap1, rfl⟩ := okWide_slice Try.underlying46 (hval 1 46 v1 rfl rfl)
  obtain ⟨pa1, pc1, zs1, hv1, hle1, hz1⟩ : ∃ (pa : Option Addr) (pc : Nat) (zs : List Int), Value.slice b1 len1 cap1 = .slice pa zs.length pc ∧ zs.length ≤ pc ∧ IntsAt W (.slice pa zs.length pc) zs (fun b => b < W.heap.size) := by obtain ⟨fuel, hf⟩ := h1; exact ints_cap hf
  obtain ⟨a2, rfl, rfl, rfl, w2⟩ := open_int Try.underlying3 (hval 2 3 v2 rfl rfl) h2
  clear hA0 hval0
  have hwalk := shelfSurvives_walk c sl sv cn pa1 pc1 zs1 a2 W hsl hz1 hle1
  rw [← hv1] at hwalk
  refine hwalk.mono fun e W' ⟨he, hb⟩ => ?_
  subst he
  exact ⟨_, rfl, law_post laidOut Try.underlying4 hW' rfl rfl (by kernel_rfl) ⟨rfl, rfl, rfl⟩ hb.below⟩

/-- The statement. -/
theorem shelfFlushedSurvives_proved : Rows.ShelfFlushedSurvivesSaid :=
  OpenClaim.holds_of_wide 14 Try.f14 rfl rfl rfl rfl rfl rfl rfl ⟨rfl, rfl, rfl, rfl, rfl⟩ rfl rfl rfl rfl rfl (by kernel_rfl) Try.func14 (by kernel_rfl)
    (of_decide_eq_true (by kernel_rfl)) (by unfold Func.isWrapper; first | (rw [if_pos (by decide +kernel)]; kernel_rfl) | (rw [if_neg (by decide +kernel)]; exact ⟨rfl, rfl⟩))
    (fun os started H enc _ => shelfFlushedSurvives_lifted os started H enc)
#print axioms shelfFlushedSurvives_proved
end Go.Proofs.Ytmbkmfpnjpkakaa
