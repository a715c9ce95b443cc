/- 'solventlaw17.ShelfPlacesAreDistinct' answers true for every input, and its arguments read as before; no condition. -/
import Derived.Test.YtmbkmfpnjpkakaaY3
namespace Go.Proofs.Ytmbkmfpnjpkakaa
open Go.ChangeShapes Go.WideShapes Go.ChangeAt Go.RowKit Go.Im Go.Dsk0

theorem mt57 : Try.prog.underlying 57 = some (.slice 9) := by kernel_rfl
def fillOp' (x : UInt8) : Shf0.SOp := ⟨0, ⟨0, 0, 0⟩, ⟨0, 0, 0⟩, 0, x, 64, []⟩
theorem fill_len' (x : UInt8) : (Shf0.text (fillOp' x)).length = 64 := by unfold Shf0.text; rw [List.length_map, List.length_range]; rfl
/-- A row of texts: one of them. -/
theorem row_strs' {w : World} {base : Nat} {v : Value} {n : Nat} {l : List (List UInt8)} (h : w.ownsRow base 9 1 v n (l.map strOf)) {k : Nat} {x : List UInt8} (hx : l[k]? = some x) : ∃ gb vc, v = .slice (some ⟨gb, 0, none⟩) n vc ∧ w.cell? ⟨gb, k, none⟩ = some (strOf x) := by
  obtain ⟨h1, h2⟩ := h
  have hn : n = l.length := by simpa using h1.symm
  have hk : k < l.length := (List.getElem?_eq_some_iff.1 hx).1
  rcases h2 with h2 | ⟨gb, vc, cur, h2, h3, h4, h5, h6, h7, h8⟩
  · omega
  · refine ⟨gb, vc, h2, ?_⟩
    rw [cell_of_blk h4]
    have : (cur.toList.take (n * 1))[k]? = some (strOf x) := by
      rw [h8, List.getElem?_map, hx]; rfl
    rw [List.getElem?_take_of_lt (by omega)] at this
    simpa using this

set_option maxRecDepth 100000 in
set_option maxHeartbeats 3000000 in
theorem shelfPlaces_walk (c : Shf0.Cfg) (l : List Shf0.SOp) (v : Value) (n3 : Int) (at_ : Shf0.Place) (x : UInt8) (w : World) (hl : SOpsAt w v l (fun b => b < w.heap.size)) :
    Calls Try.prog 13 #[.agg (playsA c v n3), .agg (plcA at_), B x] w fun e w' => e = .returned (.bool true) ∧ Fr (fun _ => False) w w' := by
  obtain ⟨zx, hfx⟩ : ∃ v : Int, v = x.toNat := ⟨_, rfl⟩
  have htx : ∀ W, Calls Try.prog 54 #[.agg #[.int .i64 0, .int .i64 0, .int .i64 0, .int .i64 0, .int .i64 0, .int .i64 0, .int .i64 0, .int .i64 0, .int .u8 zx, .int .i64 64, .slice none 0 0]] W fun e w' => e = .returned (.string ⟨(Shf0.text (fillOp' x)).toArray⟩) ∧ Fr (fun _ => False) W w' := fun W => by
    rw [hfx]; exact text17_calls (fillOp' x) (.slice none 0 0) W
  have hB : B x = .int .u8 zx := by rw [hfx]; rfl
  rw [hB]
  have HTX := Lib.hid htx
  clear htx hfx hB
  obtain ⟨XA, hXA⟩ : ∃ X : ByteArray, X = ⟨(Shf0.text (fillOp' x)).toArray⟩ := ⟨_, rfl⟩
  have hla : XA.data.toList = Shf0.text (fillOp' x) := by rw [hXA]
  have hsa : XA.data.toList.length = 64 := by rw [hla, fill_len']
  rw [← hXA] at HTX
  have HSA := Lib.hid hsa
  clear hXA hla hsa
  have HL := Lib.hid hl
  clear hl
  have hbl := fun W h => built_calls c l v W h
  have hpl := fun W h1 h2 => places_calls c W h1 h2
  unfold cfgV at hbl hpl
  have HBL := Lib.hid hbl; clear hbl
  have HPL := Lib.hid hpl; clear hpl
  unfold playsA
  obtain ⟨i0, hi, hy0, hy1, hy2⟩ := info_parts info9
  go_enter Try.func13, Try.ntmps13
  go_wp2_with (first
    | (refine im_box rfl 77 _ rfl rfl ?_; intro w1 b1 f1 z1; have Z1 := Lib.hid z1; clear z1; have p0 : w1.cell? ⟨w.heap.size, 0, none⟩ = some (.int .i64 c.disks) := cell_of_blk b1; have p1 : w1.cell? ⟨w.heap.size, 1, none⟩ = some (.int .i64 c.racks) := cell_of_blk b1; have p2 : w1.cell? ⟨w.heap.size, 2, none⟩ = some (.int .i64 c.rows) := cell_of_blk b1; have p3 : w1.cell? ⟨w.heap.size, 3, none⟩ = some (.int .i64 c.spare) := cell_of_blk b1; have p4 : w1.cell? ⟨w.heap.size, 4, none⟩ = some (.int .i64 c.log) := cell_of_blk b1; have p5 : w1.cell? ⟨w.heap.size, 5, none⟩ = some (.int .i64 c.image) := cell_of_blk b1; have p6 : w1.cell? ⟨w.heap.size, 6, none⟩ = some v := cell_of_blk b1; have hl1 := lt_of_blk b1; clear b1)
    | (refine im_box rfl 25 _ rfl rfl ?_; intro wb bb fb zb; have Zb := Lib.hid zb; clear zb; obtain ⟨s0, s1, s2⟩ := plc_cells (p := at_) bb; have hlb := lt_of_blk bb; clear bb))
  refine (ssanity_calls wb).mono ?_; rintro e w2 ⟨rfl, f2⟩
  have hl1b := Nat.lt_of_lt_of_le hl1 fb.size
  have g2 := fb.trans f2
  have q0 := (g2.cb hl1 (fun h => h)).trans p0
  have q1 := (g2.cb hl1 (fun h => h)).trans p1
  have q2 := (g2.cb hl1 (fun h => h)).trans p2
  have q3 := (g2.cb hl1 (fun h => h)).trans p3
  have q4 := (g2.cb hl1 (fun h => h)).trans p4
  have q5 := (g2.cb hl1 (fun h => h)).trans p5
  have q6 := (g2.cb hl1 (fun h => h)).trans p6
  have t0 := (f2.cb hlb (fun h => h)).trans s0
  have t1 := (f2.cb hlb (fun h => h)).trans s1
  have t2 := (f2.cb hlb (fun h => h)).trans s2
  have hl2 := Nat.lt_of_lt_of_le hl1 g2.size
  have hlb2 := Nat.lt_of_lt_of_le hlb f2.size
  have f12 := f1.trans g2
  clear p0 p1 p2 p3 p4 p5 p6 s0 s1 s2 hl1 hl1b hlb
  have HL2 := Lib.hid (HL.out.grow f12)
  have F2 := Lib.hid f12
  clear f12 f1 f2 fb g2
  go_wp2_with fail
  refine (HBL.out w2 HL2.out).mono ?_
  rintro e w3 (⟨-, rfl, f3⟩ | ⟨hv, hsm, -, s, rfl, h3, f3⟩)
  · go_wp2_with fail
    go_ret
    exact ⟨rfl, F2.out.trans f3⟩
  clear HBL HL2 HL q6
  have r0 := (f3.cb hl2 (fun h => h)).trans q0
  have r1 := (f3.cb hl2 (fun h => h)).trans q1
  have r2 := (f3.cb hl2 (fun h => h)).trans q2
  have r3 := (f3.cb hl2 (fun h => h)).trans q3
  have r4 := (f3.cb hl2 (fun h => h)).trans q4
  have r5 := (f3.cb hl2 (fun h => h)).trans q5
  have v0 := (f3.cb hlb2 (fun h => h)).trans t0
  have v1 := (f3.cb hlb2 (fun h => h)).trans t1
  have v2 := (f3.cb hlb2 (fun h => h)).trans t2
  have hl3 := Nat.lt_of_lt_of_le hl2 f3.size
  have hlb3 := Nat.lt_of_lt_of_le hlb2 f3.size
  have F3 := Lib.hid (F2.out.trans f3)
  have H3 := Lib.hid h3; clear h3
  have HNO : Hid (∀ q, q < w2.heap.size → ¬ (w2.heap.size ≤ q ∧ q < w3.heap.size)) := Lib.hid (fun q h1 h2 => by omega)
  have HNW : Hid (∀ q, q < w.heap.size → ¬ (w2.heap.size ≤ q ∧ q < w3.heap.size)) := Lib.hid (fun q h1 h2 => by have := F2.out.size; omega)
  obtain ⟨S, hS⟩ : ∃ S, S = Shf0.play (Shf0.newS c) l := ⟨_, rfl⟩
  rw [← hS] at H3
  have hSc : S.cfg = c := by rw [hS]; exact Shf0.play_cfg l _
  clear hS f3 q0 q1 q2 q3 q4 q5 t0 t1 t2
  have HSC := Lib.hid hSc; clear hSc
  have HV := Lib.hid (And.intro hv hsm)
  clear hv hsm
  go_wp2_with fail
  refine (mount_calls H3.out none 0 [] (nil_ints _ _) (by simp)).mono ?_; rintro e w4 ⟨rfl, s4, f4⟩
  have H4 := Lib.hid s4; clear s4
  obtain ⟨M, hM⟩ : ∃ M, M = Shf0.mount S [] := ⟨_, rfl⟩
  rw [← hM] at H4
  have HCALM := Lib.hid (show Shf0.Calm M by rw [hM]; exact Shf0.mount_calm S [])
  have HMC := Lib.hid (show M.cfg = c by rw [hM]; exact HSC.out)
  have HOK := Lib.hid H4.out.ok
  clear hM
  have q0 := (f4.cb hl3 (HNO.out _ hl2)).trans r0
  have q1 := (f4.cb hl3 (HNO.out _ hl2)).trans r1
  have q2 := (f4.cb hl3 (HNO.out _ hl2)).trans r2
  have q3 := (f4.cb hl3 (HNO.out _ hl2)).trans r3
  have q4 := (f4.cb hl3 (HNO.out _ hl2)).trans r4
  have q5 := (f4.cb hl3 (HNO.out _ hl2)).trans r5
  have t0 := (f4.cb hlb3 (HNO.out _ hlb2)).trans v0
  have t1 := (f4.cb hlb3 (HNO.out _ hlb2)).trans v1
  have t2 := (f4.cb hlb3 (HNO.out _ hlb2)).trans v2
  have hlb4 := Nat.lt_of_lt_of_le hlb3 f4.size
  have F4 := Lib.hid (F3.out.trans' f4 (U := fun _ => False) (fun _ _ h => h) (fun i hi h => HNW.out _ hi h))
  have hz4 := f4.size
  clear f4 r0 r1 r2 r3 r4 r5 v0 v1 v2
  go_wp2_with fail
  refine (HPL.out w4 HV.out.1 HV.out.2).mono ?_; rintro e w5 ⟨v10, rfl, r5, f5⟩
  obtain ⟨gb, vc, rfl, hgb1, hgb2, hpc⟩ := row_plcs r5 (Shf0.places_ne HV.out.1)
  have HPC := Lib.hid hpc; clear hpc r5
  have H5 := Lib.hid (H4.out.keep f5)
  have F5 := Lib.hid (F4.out.trans f5)
  have v0 := (f5.cb hlb4 (fun h => h)).trans t0
  have v1 := (f5.cb hlb4 (fun h => h)).trans t1
  have v2 := (f5.cb hlb4 (fun h => h)).trans t2
  have hlb5 := Nat.lt_of_lt_of_le hlb4 f5.size
  have hz5 := f5.size
  clear f5 q0 q1 q2 q3 q4 q5 t0 t1 t2
  obtain ⟨pl, hpl⟩ : ∃ pl, pl = Shf0.places c := ⟨_, rfl⟩
  rw [← hpl] at HPC ⊢
  have hth : ∀ p ∈ pl, Shf0.there M p := fun p hp => Shf0.place_there HOK.out (by rw [HMC.out, ← hpl]; exact hp)
  have HTH := Lib.hid hth
  have hP : pl.length ≤ 1000 := by rw [hpl]; exact Shf0.places_len HV.out.1 HV.out.2
  clear hpl hth
  obtain ⟨P, hPl⟩ : ∃ P, P = pl.length := ⟨_, rfl⟩
  rw [← hPl] at hP ⊢
  have HPL' := Lib.hid hPl; clear hPl
  have HG3 : Hid (w3.heap.size ≤ gb ∧ w3.heap.size ≤ w5.heap.size) := Lib.hid ⟨by omega, by omega⟩
  have HZW : Hid (w.heap.size ≤ w5.heap.size) := Lib.hid F5.out.size
  go_wp2_with fail
  go_loopg [11, 12] P (fun m va t wr => ∃ k : Nat, m + k = P ∧ t = .int .i64 k ∧ wr.ownsRow w5.heap.size 9 1 va k (((pl.map fun p => (Shf0.peek M p).1).take k).map strOf) ∧ Fr (fun _ => False) w5 wr)
  case atStart => exact ⟨0, rfl, rfl, World.ownsRow_nil _ _ _ _, Fr.refl _ _⟩
  case round =>
    obtain ⟨k, hm, rfl, hrow, hfr⟩ := hrel
    have HM := Lib.hid hm; clear hm
    have HR := Lib.hid hrow; clear hrow
    have HFR := Lib.hid hfr; clear hfr
    by_cases hk : k < P
    · have hk1 : (k : Int) < P := by omega
      have hkl : k < pl.length := by rw [← HPL'.out]; exact hk
      obtain ⟨p, hp⟩ : ∃ p, pl[k]? = some p := ⟨_, List.getElem?_eq_getElem hkl⟩
      obtain ⟨e0, e1, e2⟩ := HPC.out k p hp
      have e0 := (HFR.out.cb hgb2 (fun h => h)).trans e0
      have e1 := (HFR.out.cb hgb2 (fun h => h)).trans e1
      have e2 := (HFR.out.cb hgb2 (fun h => h)).trans e2
      have HP := Lib.hid hp
      clear hp hkl
      go_wp2_with fail
      refine (peek_calls (H5.out.keep HFR.out) p).mono ?_; rintro e w6 ⟨rfl, f6⟩
      have HFIS := Lib.hid (Nat.le_trans HFR.out.size f6.size)
      have HR6 := Lib.hid (row_keep' HR.out f6)
      have HF6 := Lib.hid (HFR.out.trans f6)
      clear f6 e0 e1 e2
      go_wp2_with (first
        | (at_builtin; refine im_append1 rfl _ _ 57 rfl w5.heap.size mt57 hi hy0 hy1 hy2 rfl (by decide) rfl (row_keep' HR6.out ((Fr.refl (fun _ => False) _).alloc _)) rfl (heap_alloc_new _ _) rfl (by simp [Value.oneCell']) (by unfold maxLen; omega) (by omega) (by have := HFIS.out; simp; omega) ?_; intro v7 w7 r7 f7; have R7 := Lib.hid r7; clear r7))
      have f67 : Fr (fun q => w5.heap.size ≤ q) w6 w7 := ((Fr.refl (fun q => w5.heap.size ≤ q) w6).alloc _).trans f7
      have fa := fr_below' (HF6.out.no.trans f67)
      have hni : gk + k = P := HM.out
      have RR := R7.out
      go_roundg (gk - 1)
      case measure => omega
      case rel =>
        refine ⟨k + 1, by omega, by go_num, ?_, fa⟩
        rw [List.take_add_one, List.getElem?_map, HP.out, List.map_append]
        exact RR
    · have hkn : k = P := by have := HM.out; omega
      subst hkn
      clear hk
      have hwas := HR.out
      rw [List.take_of_length_le (by rw [List.length_map, ← HPL'.out]; exact Nat.le_refl _)] at hwas
      have HWAS := Lib.hid hwas; clear hwas HR
      go_wp2_with fail
      refine (HTX.out wr).mono ?_; rintro e w6 ⟨rfl, f6⟩
      have HF6 := Lib.hid (HFR.out.trans f6)
      have HW6 := Lib.hid (row_keep' HWAS.out f6)
      have hlb6 := Nat.lt_of_lt_of_le hlb5 HF6.out.size
      have t0 := (HF6.out.cb hlb5 (fun h => h)).trans v0
      have t1 := (HF6.out.cb hlb5 (fun h => h)).trans v1
      have t2 := (HF6.out.cb hlb5 (fun h => h)).trans v2
      have H6 := Lib.hid (H5.out.keep HF6.out)
      have F6 := Lib.hid (F5.out.trans HF6.out)
      clear f6 v0 v1 v2
      go_wp2_with fail
      refine (swrite_calls H6.out at_ XA).mono ?_; rintro e w7 ⟨rfl, s7, f7⟩
      obtain ⟨E, hE⟩ : ∃ E, E = (Shf0.write M at_ XA.data.toList).1 := ⟨_, rfl⟩
      obtain ⟨W, hW⟩ : ∃ W, W = (Shf0.write M at_ XA.data.toList).2 := ⟨_, rfl⟩
      have hd : ∀ p ∈ pl, Shf0.peek W p = (if p = at_ ∧ E = 0 then XA.data.toList else (Shf0.peek M p).1, decide (Shf0.state W p.disk = 1)) := fun p hp => by
        rw [hW, hE]; exact (Shf0.distinct HOK.out HCALM.out at_ HSA.out p (HTH.out p hp)).1
      rw [← hE]
      rw [← hW] at s7
      have HDI := Lib.hid hd
      clear hd hE hW
      have H7 := Lib.hid s7; clear s7
      have HGO : ∀ q, w3.heap.size ≤ q → ¬ (w2.heap.size ≤ q ∧ q < w3.heap.size) := fun q h1 h2 => Nat.lt_irrefl _ (Nat.lt_of_lt_of_le h2.2 h1)
      have hgb6 := Nat.lt_of_lt_of_le hgb2 HF6.out.size
      have hg7 := fun o => (f7.cb (o := o) hgb6 (HGO _ HG3.out.1)).trans (HF6.out.cb (o := o) hgb2 (fun h => h))
      have HG7 := Lib.hid hg7; clear hg7
      have HW7 := Lib.hid (row_fr HW6.out f7 (fun q hq _ => HGO _ (Nat.le_trans HG3.out.2 hq)))
      have hlb7 := Nat.lt_of_lt_of_le hlb6 f7.size
      have hgb7 := Nat.lt_of_lt_of_le hgb6 f7.size
      have v0 := (f7.cb hlb6 (HNO.out _ hlb2)).trans t0
      have v1 := (f7.cb hlb6 (HNO.out _ hlb2)).trans t1
      have v2 := (f7.cb hlb6 (HNO.out _ hlb2)).trans t2
      have F7 := Lib.hid (F6.out.trans' f7 (U := fun _ => False) (fun _ _ h => h) (fun i hi h => HNW.out _ hi h))
      clear f7 t0 t1 t2 HGO
      go_wp2_with fail
      go_loopg [17] k (fun m t wr => ∃ j : Nat, m + j = k ∧ t = .int .i64 j ∧ Fr (fun _ => False) w7 wr)
      case atStart => exact ⟨0, rfl, rfl, Fr.refl _ _⟩
      case round =>
        obtain ⟨j, hm, rfl, hfr⟩ := hrel
        have HM2 := Lib.hid hm; clear hm
        have HFR2 := Lib.hid hfr; clear hfr
        by_cases hj : j < k
        · have hj1 : (j : Int) < k := by omega
          have hjl : j < pl.length := by rw [← HPL'.out]; exact hj
          obtain ⟨p, hp⟩ : ∃ p, pl[j]? = some p := ⟨_, List.getElem?_eq_getElem hjl⟩
          obtain ⟨e0, e1, e2⟩ := HPC.out j p hp
          have e0 := (HFR2.out.cb hgb7 (fun h => h)).trans ((HG7.out _).trans e0)
          have e1 := (HFR2.out.cb hgb7 (fun h => h)).trans ((HG7.out _).trans e1)
          have e2 := (HFR2.out.cb hgb7 (fun h => h)).trans ((HG7.out _).trans e2)
          have hpk := peek_calls (H7.out.keep HFR2.out) p
          rw [HDI.out p (List.mem_of_getElem? hp)] at hpk
          have HP := Lib.hid hp
          clear hp hjl
          obtain ⟨gw, vw, hgw, hcw⟩ := row_strs' (row_keep' HW7.out HFR2.out) (k := j) (x := (Shf0.peek M p).1) (by rw [List.getElem?_map, HP.out]; rfl)
          subst hgw
          obtain ⟨RX, hRX⟩ : ∃ RX, RX = (if p = at_ ∧ E = 0 then XA.data.toList else (Shf0.peek M p).1) := ⟨_, rfl⟩
          obtain ⟨b, hb⟩ : ∃ b, b = decide (Shf0.state W p.disk = 1) := ⟨_, rfl⟩
          rw [← hRX, ← hb] at hpk
          have HRX := Lib.hid hRX; clear hRX
          have HB := Lib.hid hb; clear hb
          go_wp2_with fail
          refine hpk.mono ?_; rintro e w8 ⟨rfl, f8⟩
          clear hpk
          have HF8 := Lib.hid (HFR2.out.trans f8)
          have c0 := (f8.cb (Nat.lt_of_lt_of_le hgb7 HFR2.out.size) (fun h => h)).trans e0
          have c1 := (f8.cb (Nat.lt_of_lt_of_le hgb7 HFR2.out.size) (fun h => h)).trans e1
          have c2 := (f8.cb (Nat.lt_of_lt_of_le hgb7 HFR2.out.size) (fun h => h)).trans e2
          have cw := (f8.cb (World.block_lt_of_cell? wr _ hcw) (fun h => h)).trans hcw
          have a0 := (HF8.out.cb hlb7 (fun h => h)).trans v0
          have a1 := (HF8.out.cb hlb7 (fun h => h)).trans v1
          have a2 := (HF8.out.cb hlb7 (fun h => h)).trans v2
          have hst := fun W hW => state_calls (H7.out.keep (w' := W) hW) p.disk
          clear f8 e0 e1 e2 hcw
          obtain ⟨pd, pa, pi⟩ := p
          obtain ⟨ad, aa, ai⟩ := at_
          simp only at c0 c1 c2 a0 a1 a2 hst
          go_wp2_with fail
          have hni : gk + j = k := HM2.out
          by_cases hs1 : Shf0.state W pd = 1
          · have hb1 : b = true := by rw [HB.out]; exact decide_eq_true hs1
            subst hb1
            rw [hs1] at hst
            have HST := Lib.hid hst
            clear hst hs1
            by_cases hpa : pd = ad ∧ pa = aa ∧ pi = ai
            · obtain ⟨rfl, rfl, rfl⟩ := hpa
              by_cases hE : E = 0
              · subst hE
                have hrx := HRX.out
                rw [if_pos ⟨rfl, rfl⟩] at hrx
                have hRB : (⟨RX.toArray⟩ : ByteArray) = XA := by rw [hrx]
                rw [hRB]
                have hbb : (XA.toList == XA.toList) = true := beq_self_eq_true _
                go_quiet (fail)
                go_wp2_with fail
                go_wp2_with fail
                refine (HST.out _ (HF8.out.drewN _)).mono ?_; rintro e w' ⟨rfl, rfl⟩
                go_wp2_with fail
                go_roundg (gk - 1)
                case measure => omega
                case rel => exact ⟨j + 1, by omega, by go_num, HF8.out.drewN _⟩
              · have hrx := HRX.out
                rw [if_neg (fun h => hE h.2)] at hrx
                obtain ⟨RB, hRB⟩ : ∃ RB : ByteArray, RB = ⟨RX.toArray⟩ := ⟨_, rfl⟩
                have cw2 : w8.cell? ⟨gw, j, none⟩ = some (.string RB) := by rw [hRB, hrx]; exact cw
                have hq : strOf (Shf0.peek M ⟨pd, pa, pi⟩).1 = .string RB := by rw [hRB, hrx]; rfl
                rw [← hRB, hq]
                clear cw hRB hrx
                have hbb : (RB.toList == RB.toList) = true := beq_self_eq_true _
                go_quiet (fail)
                go_wp2_with fail
                go_wp2_with fail
                refine (HST.out _ (HF8.out.drewN _)).mono ?_; rintro e w' ⟨rfl, rfl⟩
                go_wp2_with fail
                go_roundg (gk - 1)
                case measure => omega
                case rel => exact ⟨j + 1, by omega, by go_num, HF8.out.drewN _⟩
            · have hrx := HRX.out
              rw [if_neg (fun h => hpa (by injection h.1 with h1 h2 h3; exact ⟨h1, h2, h3⟩))] at hrx
              obtain ⟨RB, hRB⟩ : ∃ RB : ByteArray, RB = ⟨RX.toArray⟩ := ⟨_, rfl⟩
              have cw2 : w8.cell? ⟨gw, j, none⟩ = some (.string RB) := by rw [hRB, hrx]; exact cw
              have hq : strOf (Shf0.peek M ⟨pd, pa, pi⟩).1 = .string RB := by rw [hRB, hrx]; rfl
              rw [← hRB, hq]
              clear cw hRB hrx
              have hbb : (RB.toList == RB.toList) = true := beq_self_eq_true _
              rcases (show pd ≠ ad ∨ (pd = ad ∧ pa ≠ aa) ∨ (pd = ad ∧ pa = aa ∧ pi ≠ ai) by omega) with hne | ⟨rfl, hne⟩ | ⟨rfl, rfl, hne⟩
              · go_quiet (fail)
                go_wp2_with fail
                go_wp2_with fail
                refine (HST.out _ (HF8.out.drewN _)).mono ?_; rintro e w' ⟨rfl, rfl⟩
                go_wp2_with fail
                go_roundg (gk - 1)
                case measure => omega
                case rel => exact ⟨j + 1, by omega, by go_num, HF8.out.drewN _⟩
              · go_quiet (fail)
                go_wp2_with fail
                go_wp2_with fail
                refine (HST.out _ (HF8.out.drewN _)).mono ?_; rintro e w' ⟨rfl, rfl⟩
                go_wp2_with fail
                go_roundg (gk - 1)
                case measure => omega
                case rel => exact ⟨j + 1, by omega, by go_num, HF8.out.drewN _⟩
              · go_quiet (fail)
                go_wp2_with fail
                go_wp2_with fail
                refine (HST.out _ (HF8.out.drewN _)).mono ?_; rintro e w' ⟨rfl, rfl⟩
                go_wp2_with fail
                go_roundg (gk - 1)
                case measure => omega
                case rel => exact ⟨j + 1, by omega, by go_num, HF8.out.drewN _⟩
          · have hb1 : b = false := by rw [HB.out]; exact decide_eq_false hs1
            subst hb1
            have HST := Lib.hid hst
            obtain ⟨st, hst'⟩ : ∃ st, st = Shf0.state W pd := ⟨_, rfl⟩
            rw [← hst'] at HST hs1
            clear hst hst'
            by_cases hpa : pd = ad ∧ pa = aa ∧ pi = ai
            · obtain ⟨rfl, rfl, rfl⟩ := hpa
              by_cases hE : E = 0
              · subst hE
                have hrx := HRX.out
                rw [if_pos ⟨rfl, rfl⟩] at hrx
                have hRB : (⟨RX.toArray⟩ : ByteArray) = XA := by rw [hrx]
                rw [hRB]
                have hbb : (XA.toList == XA.toList) = true := beq_self_eq_true _
                go_quiet (fail)
                go_wp2_with fail
                go_wp2_with fail
                refine (HST.out _ (HF8.out.drewN _)).mono ?_; rintro e w' ⟨rfl, rfl⟩
                go_wp2_with fail
                go_roundg (gk - 1)
                case measure => omega
                case rel => exact ⟨j + 1, by omega, by go_num, HF8.out.drewN _⟩
              · have hrx := HRX.out
                rw [if_neg (fun h => hE h.2)] at hrx
                obtain ⟨RB, hRB⟩ : ∃ RB : ByteArray, RB = ⟨RX.toArray⟩ := ⟨_, rfl⟩
                have cw2 : w8.cell? ⟨gw, j, none⟩ = some (.string RB) := by rw [hRB, hrx]; exact cw
                have hq : strOf (Shf0.peek M ⟨pd, pa, pi⟩).1 = .string RB := by rw [hRB, hrx]; rfl
                rw [← hRB, hq]
                clear cw hRB hrx
                have hbb : (RB.toList == RB.toList) = true := beq_self_eq_true _
                go_quiet (fail)
                go_wp2_with fail
                go_wp2_with fail
                refine (HST.out _ (HF8.out.drewN _)).mono ?_; rintro e w' ⟨rfl, rfl⟩
                go_wp2_with fail
                go_roundg (gk - 1)
                case measure => omega
                case rel => exact ⟨j + 1, by omega, by go_num, HF8.out.drewN _⟩
            · have hrx := HRX.out
              rw [if_neg (fun h => hpa (by injection h.1 with h1 h2 h3; exact ⟨h1, h2, h3⟩))] at hrx
              obtain ⟨RB, hRB⟩ : ∃ RB : ByteArray, RB = ⟨RX.toArray⟩ := ⟨_, rfl⟩
              have cw2 : w8.cell? ⟨gw, j, none⟩ = some (.string RB) := by rw [hRB, hrx]; exact cw
              have hq : strOf (Shf0.peek M ⟨pd, pa, pi⟩).1 = .string RB := by rw [hRB, hrx]; rfl
              rw [← hRB, hq]
              clear cw hRB hrx
              have hbb : (RB.toList == RB.toList) = true := beq_self_eq_true _
              rcases (show pd ≠ ad ∨ (pd = ad ∧ pa ≠ aa) ∨ (pd = ad ∧ pa = aa ∧ pi ≠ ai) by omega) with hne | ⟨rfl, hne⟩ | ⟨rfl, rfl, hne⟩
              · go_quiet (fail)
                go_wp2_with fail
                go_wp2_with fail
                refine (HST.out _ (HF8.out.drewN _)).mono ?_; rintro e w' ⟨rfl, rfl⟩
                go_wp2_with fail
                go_roundg (gk - 1)
                case measure => omega
                case rel => exact ⟨j + 1, by omega, by go_num, HF8.out.drewN _⟩
              · go_quiet (fail)
                go_wp2_with fail
                go_wp2_with fail
                refine (HST.out _ (HF8.out.drewN _)).mono ?_; rintro e w' ⟨rfl, rfl⟩
                go_wp2_with fail
                go_roundg (gk - 1)
                case measure => omega
                case rel => exact ⟨j + 1, by omega, by go_num, HF8.out.drewN _⟩
              · go_quiet (fail)
                go_wp2_with fail
                go_wp2_with fail
                refine (HST.out _ (HF8.out.drewN _)).mono ?_; rintro e w' ⟨rfl, rfl⟩
                go_wp2_with fail
                go_roundg (gk - 1)
                case measure => omega
                case rel => exact ⟨j + 1, by omega, by go_num, HF8.out.drewN _⟩
        · have hjn : j = k := by have := HM2.out; omega
          subst hjn
          clear hj
          go_wp2_with fail
          go_ret
          exact ⟨rfl, F7.out.trans HFR2.out⟩

theorem plc_of_cells {H : Type} {enc : TypeId × Value → H} {w : World} {fuel : Nat} {cs : Array Value} {x : DataW H × List MemPlace} (h : DataW.trod enc Try.prog w 0 (fun _ => true) true fuel 25 cs.toList = some x) : ∃ p, cs = plcA p := by
  obtain ⟨hl, n, hf⟩ := field_trod f25 h
  rw [cl25] at hl
  obtain ⟨y0, h0⟩ := hf 0 3 0 rfl
  obtain ⟨y1, h1⟩ := hf 1 3 1 rfl
  obtain ⟨y2, h2⟩ := hf 2 3 2 rfl
  obtain ⟨n0, e0⟩ := int_field h0
  obtain ⟨n1, e1⟩ := int_field h1
  obtain ⟨n2, e2⟩ := int_field h2
  refine ⟨⟨n0, n1, n2⟩, ?_⟩
  apply Array.ext_getElem?
  intro i
  rw [← Array.getElem?_toList]
  by_cases hi : i < 3
  · have : i = 0 ∨ i = 1 ∨ i = 2 := by omega
    rcases this with rfl | rfl | rfl
    · exact e0
    · exact e1
    · exact e2
  · rw [List.getElem?_eq_none (by omega), Array.getElem?_eq_none (by simp [plcA]; omega)]


set_option maxRecDepth 100000 in
theorem shelfPlacesAreDistinct_lifted (os : Os) (started : os.Started) (H : Type) (enc : TypeId × Value → H) :
    ReturnsInHanded {} Try.checked os 13 .any (Rows.shelfPlacesAreDistinctSpec.pre6 enc Try.prog Try.f13 Rows.shelfPlacesAreDistinctRow.domain false) (Rows.shelfPlacesAreDistinctSpec.post enc Try.prog Try.f13 false true false false) := by
  refine returnsInHanded_of_change (C := Try.checked) own started (by kernel_rfl) Try.func13
    (ChangeSpec.witness6 (enc := enc) (C := Try.checked) false ⟨#[], #[.agg #[.int .i64 0, .int .i64 0, .int .i64 0, .int .i64 0, .int .i64 0, .int .i64 0, .slice none 0 0, .int .i64 0], .agg #[.int .i64 0, .int .i64 0, .int .i64 0], .int .u8 0], []⟩ 8 (by kernel_rfl) (by kernel_rfl) (by kernel_rfl) (by kernel_rfl)) ?_
  intro W base args ds gs before hval0 hW hcnd _
  have hval : ∀ (j : Nat) t v, Try.f13.params[j]? = some t → args[j]? = some v → Value.okWide Try.prog W .any base t v := hval0
  have hW' := hW
  obtain ⟨p, q, hA0, hV, rfl, hfz, hnd⟩ := hW
  have hA : DataW.TrodAll enc Try.prog W 0 (fun _ => true) true Try.f13.params.toList args.toList ds p := hA0
  rw [Try.params13] at hA hval
  obtain ⟨v0, vs0, d0, ds0, p0, q0, hargs, rfl, rfl, h0, r0⟩ := trodAll_cons hA
  obtain ⟨v1, vs1, d1, ds1, p1, q1, rfl, rfl, rfl, h1, r1⟩ := trodAll_cons r0
  obtain ⟨v2, vs2, d2, ds2, p2, q2, rfl, rfl, rfl, h2, r2⟩ := trodAll_cons r1
  obtain ⟨rfl, rfl, rfl⟩ := trodAll_nil r2
  obtain rfl : args = #[v0, v1, v2] := by cases args; simp_all
  obtain ⟨rfl, rfl⟩ := trodVars_none hV
  obtain ⟨cs0, rfl, -⟩ := okWide_struct Try.underlying77 (hval 0 77 v0 rfl rfl)
  obtain ⟨c, sv, cn, sl, rfl, hsl⟩ : ∃ c v n l, cs0 = playsA c v n ∧ SOpsAt W v l (fun b => b < W.heap.size) := by obtain ⟨fuel, hf⟩ := h0; exact plays_of_cells hf
  obtain ⟨cs1, rfl, -⟩ := okWide_struct Try.underlying25 (hval 1 25 v1 rfl rfl)
  obtain ⟨pl, rfl⟩ : ∃ p, cs1 = plcA p := by obtain ⟨fuel, hf⟩ := h1; exact plc_of_cells hf
  obtain ⟨a2, rfl, rfl, rfl, w2⟩ := open_int Try.underlying5 (hval 2 5 v2 rfl rfl) h2
  obtain ⟨x2, hx2⟩ := u8_B w2
  clear hA0 hval0
  have hwalk := shelfPlaces_walk c sl sv cn pl x2 W hsl
  rw [← hx2] at hwalk
  refine hwalk.mono fun e W' ⟨he, hb⟩ => ?_
  subst he
  exact ⟨_, rfl, law_post laidOut Try.underlying4 hW' rfl rfl (by kernel_rfl) ⟨rfl, rfl, rfl⟩ hb.below⟩

/-- The statement. -/
theorem shelfPlacesAreDistinct_proved : Rows.ShelfPlacesAreDistinctSaid :=
  OpenClaim.holds_of_wide 13 Try.f13 rfl rfl rfl rfl rfl rfl rfl ⟨rfl, rfl, rfl, rfl, rfl⟩ rfl rfl rfl rfl rfl (by kernel_rfl) Try.func13 (by kernel_rfl)
    (of_decide_eq_true (by kernel_rfl)) (by unfold Func.isWrapper; first | (rw [if_pos (by decide +kernel)]; kernel_rfl) | (rw [if_neg (by decide +kernel)]; exact ⟨rfl, rfl⟩))
    (fun os started H enc _ => shelfPlacesAreDistinct_lifted os started H enc)
#print axioms shelfPlacesAreDistinct_proved
end Go.Proofs.Ytmbkmfpnjpkakaa
