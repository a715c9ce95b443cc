/- 'solventlaw17.ShelfTornWrites' answers true for every input, and its arguments read as before; no condition. -/
import Derived.Test.YtmbkmfpnjpkakaaS21
import Derived.Test.YtmbkmfpnjpkakaaR0
import Derived.Test.YtmbkmfpnjpkakaaR1
import Derived.Lib.SlicesS
namespace Go.Proofs.Ytmbkmfpnjpkakaa
open Go.ChangeShapes Go.WideShapes Go.ChangeAt Go.RowKit Go.Im Go.Dsk0

def tornA (c : Shf0.Cfg) (p : Shf0.Place) (x y : UInt8) (n : Int) : Array Value :=
  #[.int .i64 c.disks, .int .i64 c.racks, .int .i64 c.rows, .int .i64 c.spare, .int .i64 c.log, .int .i64 c.image, .int .i64 p.disk, .int .i64 p.area, .int .i64 p.index, B x, B y, .int .i64 n]

theorem mix_eq7 {S F O : ByteArray} {m : Nat} (hO : O.size = 64) (h : S.data.toList = F.data.toList.take m ++ O.data.toList.drop m) : S = F.extract 0 m ++ O.extract m 64 := by
  apply ByteArray.ext
  apply Array.ext'
  rw [h, ByteArray.data_append, ByteArray.data_extract, ByteArray.data_extract, Array.toList_append, Array.toList_extract, Array.toList_extract]
  have h1 : O.data.toList.length = 64 := hO
  have h2 : (O.data.toList.drop m).take (64 - m) = O.data.toList.drop m := List.take_of_length_le (by simp [h1])
  simp [List.extract_eq_take_drop, h2]

def fillOp (x : UInt8) : Shf0.SOp := ⟨0, ⟨0, 0, 0⟩, ⟨0, 0, 0⟩, 0, x, 64, []⟩
theorem fill_len (x : UInt8) : (Shf0.text (fillOp x)).length = 64 := by unfold Shf0.text; rw [List.length_map, List.length_range]; rfl

set_option maxRecDepth 100000 in
set_option maxHeartbeats 3000000 in
theorem shelfTorn_walk (c : Shf0.Cfg) (p : Shf0.Place) (x y : UInt8) (n : Int) (w : World) :
    Calls Try.prog 12 #[.agg (tornA c p x y n)] w fun e w' => e = .returned (.bool true) ∧ Fr (fun _ => False) w w' := by
  obtain ⟨zx, hfx⟩ : ∃ v : Int, v = x.toNat := ⟨_, rfl⟩
  obtain ⟨zy, hfy⟩ : ∃ v : Int, v = y.toNat := ⟨_, rfl⟩
  have htx : ∀ W, Calls Try.prog 54 #[.agg #[.int .i64 0, .int .i64 0, .int .i64 0, .int .i64 0, .int .i64 0, .int .i64 0, .int .i64 0, .int .i64 0, .int .u8 zx, .int .i64 64, .slice none 0 0]] W fun e w' => e = .returned (.string ⟨(Shf0.text (fillOp x)).toArray⟩) ∧ Fr (fun _ => False) W w' := fun W => by
    rw [hfx]; exact text17_calls (fillOp x) (.slice none 0 0) W
  have hty : ∀ W, Calls Try.prog 54 #[.agg #[.int .i64 0, .int .i64 0, .int .i64 0, .int .i64 0, .int .i64 0, .int .i64 0, .int .i64 0, .int .i64 0, .int .u8 zy, .int .i64 64, .slice none 0 0]] W fun e w' => e = .returned (.string ⟨(Shf0.text (fillOp y)).toArray⟩) ∧ Fr (fun _ => False) W w' := fun W => by
    rw [hfy]; exact text17_calls (fillOp y) (.slice none 0 0) W
  have hA : tornA c p x y n = #[.int .i64 c.disks, .int .i64 c.racks, .int .i64 c.rows, .int .i64 c.spare, .int .i64 c.log, .int .i64 c.image, .int .i64 p.disk, .int .i64 p.area, .int .i64 p.index, .int .u8 zx, .int .u8 zy, .int .i64 n] := by rw [hfx, hfy]; rfl
  rw [hA]
  clear hA hfx hfy
  have HTX := Lib.hid htx
  have HTY := Lib.hid hty
  clear htx hty
  obtain ⟨d, area, idx⟩ := p
  have hbl := fun W => built0_calls c W
  unfold cfgV at hbl
  have HBL := Lib.hid hbl; clear hbl
  simp only
  go_enter Try.func12, Try.ntmps12
  go_wp2_with (first
    | (refine im_box rfl 87 _ rfl rfl ?_; intro w1 b1 f1 z1; have Z1 := Lib.hid z1; clear z1; have p0 : w1.cell? ⟨w.heap.size, 0, none⟩ = some (.int .i64 c.disks) := cell_of_blk b1; have p1 : w1.cell? ⟨w.heap.size, 1, none⟩ = some (.int .i64 c.racks) := cell_of_blk b1; have p2 : w1.cell? ⟨w.heap.size, 2, none⟩ = some (.int .i64 c.rows) := cell_of_blk b1; have p3 : w1.cell? ⟨w.heap.size, 3, none⟩ = some (.int .i64 c.spare) := cell_of_blk b1; have p4 : w1.cell? ⟨w.heap.size, 4, none⟩ = some (.int .i64 c.log) := cell_of_blk b1; have p5 : w1.cell? ⟨w.heap.size, 5, none⟩ = some (.int .i64 c.image) := cell_of_blk b1; have p6 : w1.cell? ⟨w.heap.size, 6, none⟩ = some (.int .i64 d) := cell_of_blk b1; have p7 : w1.cell? ⟨w.heap.size, 7, none⟩ = some (.int .i64 area) := cell_of_blk b1; have p8 : w1.cell? ⟨w.heap.size, 8, none⟩ = some (.int .i64 idx) := cell_of_blk b1; have p9 : w1.cell? ⟨w.heap.size, 9, none⟩ = some (.int .u8 zx) := cell_of_blk b1; have p10 : w1.cell? ⟨w.heap.size, 10, none⟩ = some (.int .u8 zy) := cell_of_blk b1; have p11 : w1.cell? ⟨w.heap.size, 11, none⟩ = some (.int .i64 n) := cell_of_blk b1; have hl1 := lt_of_blk b1; clear b1))
  refine (ssanity_calls w1).mono ?_; rintro e w2 ⟨rfl, f2⟩
  have q0 := (f2.cb hl1 (fun h => h)).trans p0
  have q1 := (f2.cb hl1 (fun h => h)).trans p1
  have q2 := (f2.cb hl1 (fun h => h)).trans p2
  have q3 := (f2.cb hl1 (fun h => h)).trans p3
  have q4 := (f2.cb hl1 (fun h => h)).trans p4
  have q5 := (f2.cb hl1 (fun h => h)).trans p5
  have q6 := (f2.cb hl1 (fun h => h)).trans p6
  have q7 := (f2.cb hl1 (fun h => h)).trans p7
  have q8 := (f2.cb hl1 (fun h => h)).trans p8
  have q9 := (f2.cb hl1 (fun h => h)).trans p9
  have q10 := (f2.cb hl1 (fun h => h)).trans p10
  have q11 := (f2.cb hl1 (fun h => h)).trans p11
  have hl2 := Nat.lt_of_lt_of_le hl1 f2.size
  clear p0 p1 p2 p3 p4 p5 p6 p7 p8 p9 p10 p11
  go_wp2_with (first
    | (refine im_alloc_row rfl 25 rfl (zero25 _) ?_; intro w3 b3 f3 z3; have B3 := Lib.hid b3; clear b3; have Z3 := Lib.hid z3; clear z3; have r6 := (f3.cb hl2 (fun h => h)).trans q6; have r7 := (f3.cb hl2 (fun h => h)).trans q7; have r8 := (f3.cb hl2 (fun h => h)).trans q8)
    | (refine im_store_row rfl 25 _ _ rfl (vs := plcA ⟨d, area, idx⟩) rfl rfl B3.out rfl info25 (plcA_one _) ?_; intro w4 b4 f4 z4; obtain ⟨s0, s1, s2⟩ := plc_cells (p := ⟨d, area, idx⟩) b4; have hl4 := lt_of_blk b4; clear b4; have Z4 := Lib.hid z4; clear z4; have g4 : Fr (fun q => q = w2.heap.size) w2 w4 := f3.no.trans f4; have t0 := (g4.cb hl2 (by omega)).trans q0; have t1 := (g4.cb hl2 (by omega)).trans q1; have t2 := (g4.cb hl2 (by omega)).trans q2; have t3 := (g4.cb hl2 (by omega)).trans q3; have t4 := (g4.cb hl2 (by omega)).trans q4; have t5 := (g4.cb hl2 (by omega)).trans q5; have t9 := (g4.cb hl2 (by omega)).trans q9; have t10 := (g4.cb hl2 (by omega)).trans q10; have t11 := (g4.cb hl2 (by omega)).trans q11; clear r6 r7 r8))
  clear q0 q1 q2 q3 q4 q5 q6 q7 q8 q9 q10 q11
  have hn2 : w.heap.size ≠ w2.heap.size := by omega
  have ff4 : Fr (fun _ => False) w w4 := ((f1.trans f2).trans f3).trans' f4 (fun _ _ h => h) (fun i hi h => by have := f1.size; have := f2.size; omega)
  have hl4' := Nat.lt_of_lt_of_le hl2 g4.size
  refine (HBL.out w4).mono ?_
  rintro e w5 (⟨-, rfl, f5⟩ | ⟨hv, hsm, s, rfl, h5, f5⟩)
  · go_wp2_with fail
    go_ret
    exact ⟨rfl, ff4.trans f5⟩
  have u0 := (f5.cb hl4 (fun h => h)).trans s0
  have u1 := (f5.cb hl4 (fun h => h)).trans s1
  have u2 := (f5.cb hl4 (fun h => h)).trans s2
  have u9 := (f5.cb hl4' (fun h => h)).trans t9
  have u10 := (f5.cb hl4' (fun h => h)).trans t10
  have u11 := (f5.cb hl4' (fun h => h)).trans t11
  clear s0 s1 s2 t0 t1 t2 t3 t4 t5 t9 t10 t11
  have F5 := Lib.hid (ff4.trans f5)
  have H5 := Lib.hid h5; clear h5
  have hl5 := Nat.lt_of_lt_of_le hl4 f5.size
  have hl5' := Nat.lt_of_lt_of_le hl4' f5.size
  obtain ⟨XA, hXA⟩ : ∃ X : ByteArray, X = ⟨(Shf0.text (fillOp x)).toArray⟩ := ⟨_, rfl⟩
  obtain ⟨XB, hXB⟩ : ∃ X : ByteArray, X = ⟨(Shf0.text (fillOp y)).toArray⟩ := ⟨_, rfl⟩
  have hla : XA.data.toList = Shf0.text (fillOp x) := by rw [hXA]
  have hlb : XB.data.toList = Shf0.text (fillOp y) := by rw [hXB]
  have hsa : XA.size = 64 := by rw [show XA.size = XA.data.toList.length from rfl, hla, fill_len]
  have hsb : XB.size = 64 := by rw [show XB.size = XB.data.toList.length from rfl, hlb, fill_len]
  have HLA := Lib.hid hla; clear hla
  have HLB := Lib.hid hlb; clear hlb
  have HSA := Lib.hid hsa; clear hsa
  have HSB := Lib.hid hsb; clear hsb
  have HXA := Lib.hid hXA; clear hXA
  have HXB := Lib.hid hXB; clear hXB
  obtain ⟨S0, hS0⟩ : ∃ S0, S0 = Shf0.newS c := ⟨_, rfl⟩
  rw [← hS0] at H5
  have HS0 := Lib.hid hS0; clear hS0
  have HV := Lib.hid (And.intro hv (small_sec hsm)); clear hv hsm
  have hn1 : w.heap.size < w4.heap.size := hl4'
  have hn3 : w2.heap.size < w4.heap.size := hl4
  have HNO : Hid (∀ q, q < w4.heap.size → ¬ (w4.heap.size ≤ q ∧ q < w5.heap.size)) := Lib.hid (fun q h1 h2 => by omega)
  clear f5 f4 f3 f2 f1 ff4 g4
  go_wp2_with fail
  refine (HTX.out w5).mono ?_; rintro e w6 ⟨rfl, f6⟩
  rw [← HXA.out]
  have v0 := (f6.cb hl5 (fun h => h)).trans u0
  have v1 := (f6.cb hl5 (fun h => h)).trans u1
  have v2 := (f6.cb hl5 (fun h => h)).trans u2
  have v10 := (f6.cb hl5' (fun h => h)).trans u10
  have v11 := (f6.cb hl5' (fun h => h)).trans u11
  have hl6 := Nat.lt_of_lt_of_le hl5 f6.size
  have hl6' := Nat.lt_of_lt_of_le hl5' f6.size
  clear u0 u1 u2 u9 u10 u11
  go_wp2_with fail
  refine (HTY.out w6).mono ?_; rintro e w7 ⟨rfl, f7⟩
  rw [← HXB.out]
  have f67 := f6.trans f7
  have x0 := (f7.cb hl6 (fun h => h)).trans v0
  have x1 := (f7.cb hl6 (fun h => h)).trans v1
  have x2 := (f7.cb hl6 (fun h => h)).trans v2
  have x11 := (f7.cb hl6' (fun h => h)).trans v11
  have hl7 := Nat.lt_of_lt_of_le hl6 f7.size
  have hl7' := Nat.lt_of_lt_of_le hl6' f7.size
  have H7 := Lib.hid (H5.out.keep f67)
  have F7 := Lib.hid (F5.out.trans f67)
  have hz7 := f67.size
  clear v0 v1 v2 v10 v11 f6 f7 f67
  go_wp2_with fail
  by_cases ht : Shf0.there S0 ⟨d, area, idx⟩
  · obtain ⟨T1, T2, T3, T4⟩ := Shf0.torn HV.out.1 HV.out.2 (p := ⟨d, area, idx⟩) (by rw [← HS0.out]; exact ht) (fill_len x) (fill_len y) n
    rw [← HS0.out, ← HLA.out] at T1 T2 T3 T4
    rw [← HLB.out] at T3 T4
    refine (swrite_calls H7.out ⟨d, area, idx⟩ XA).mono ?_; rintro e w8 ⟨rfl, s8, f8⟩
    rw [T1]
    obtain ⟨S1, hS1⟩ : ∃ S1, S1 = (Shf0.write S0 ⟨d, area, idx⟩ XA.data.toList).2 := ⟨_, rfl⟩
    rw [← hS1] at s8 T2 T3 T4
    have H8 := Lib.hid s8; clear s8 hS1 T1 ht
    have y0 := (f8.cb hl7 (HNO.out _ hn3)).trans x0
    have y1 := (f8.cb hl7 (HNO.out _ hn3)).trans x1
    have y2 := (f8.cb hl7 (HNO.out _ hn3)).trans x2
    have y11 := (f8.cb hl7' (HNO.out _ hn1)).trans x11
    have hl8 := Nat.lt_of_lt_of_le hl7 f8.size
    have hl8' := Nat.lt_of_lt_of_le hl7' f8.size
    have F8 := Lib.hid (F7.out.trans' f8 (U := fun _ => False) (fun _ _ h => h) (fun i hi h => by omega))
    have hz8 := f8.size
    clear x0 x1 x2 x11 f8
    (try simp only at T2)
    have TT2 := Lib.hid T2; clear T2
    have TT3 := Lib.hid T3; clear T3
    have TT4 := Lib.hid T4; clear T4
    go_wp2_with fail
    refine (sflush_calls H8.out d).mono ?_; rintro e w9 ⟨rfl, s9, f9, -⟩
    rw [TT2.out]
    obtain ⟨S2, hS2⟩ : ∃ S2, S2 = (Shf0.flush S1 d).2 := ⟨_, rfl⟩
    have hT3 := TT3.out
    have hT4 := TT4.out
    (try simp only at hT3)
    (try simp only at hT4)
    rw [← hS2] at s9 hT3 hT4
    have H9 := Lib.hid s9; clear s9 hS2 TT3 TT4
    have TT3 := Lib.hid hT3; clear hT3
    have TT4 := Lib.hid hT4; clear hT4
    have x0 := (f9.cb hl8 (HNO.out _ hn3)).trans y0
    have x1 := (f9.cb hl8 (HNO.out _ hn3)).trans y1
    have x2 := (f9.cb hl8 (HNO.out _ hn3)).trans y2
    have x11 := (f9.cb hl8' (HNO.out _ hn1)).trans y11
    have hl9 := Nat.lt_of_lt_of_le hl8 f9.size
    have hl9' := Nat.lt_of_lt_of_le hl8' f9.size
    have F9 := Lib.hid (F8.out.trans' f9 (U := fun _ => False) (fun _ _ h => h) (fun i hi h => by omega))
    have hz9 := f9.size
    clear y0 y1 y2 y11 f9
    go_wp2_with fail
    refine (swrite_calls H9.out ⟨d, area, idx⟩ XB).mono ?_; rintro e w10 ⟨rfl, s10, f10⟩
    rw [TT3.out]
    obtain ⟨S3, hS3⟩ : ∃ S3, S3 = (Shf0.write S2 ⟨d, area, idx⟩ XB.data.toList).2 := ⟨_, rfl⟩
    have hT4 := TT4.out
    rw [← hS3] at s10 hT4
    have H10 := Lib.hid s10; clear s10 hS3 TT4
    have TT4 := Lib.hid hT4; clear hT4
    have y0 := (f10.cb hl9 (HNO.out _ hn3)).trans x0
    have y1 := (f10.cb hl9 (HNO.out _ hn3)).trans x1
    have y2 := (f10.cb hl9 (HNO.out _ hn3)).trans x2
    have y11 := (f10.cb hl9' (HNO.out _ hn1)).trans x11
    have hl10 := Nat.lt_of_lt_of_le hl9 f10.size
    have hl10' := Nat.lt_of_lt_of_le hl9' f10.size
    have F10 := Lib.hid (F9.out.trans' f10 (U := fun _ => False) (fun _ _ h => h) (fun i hi h => by omega))
    have hz10 := f10.size
    clear x0 x1 x2 x11 f10
    go_wp2_with fail
    obtain ⟨w11, hw11⟩ : ∃ w11, w11 = w10.alloc (.cells #[.int .i64 n] 3) := ⟨_, rfl⟩
    have b11 : w11.heap[w10.heap.size]? = some (.cells #[.int .i64 n] 3 (0, 0)) := by rw [hw11]; exact heap_alloc_new w10 _
    have f11 : Fr (fun _ => False) w10 w11 := by rw [hw11]; exact (Fr.refl _ _).alloc _
    rw [← hw11]
    clear hw11
    have h45 : w5.heap.size ≤ w10.heap.size := by omega
    have hpk : IntsAt w11 (.slice (some ⟨w10.heap.size, 0, none⟩) [n].length 1) [n] (fun b => ¬ (w4.heap.size ≤ b ∧ b < w5.heap.size)) :=
      ⟨_, 1, rfl, by simp, .inr ⟨_, 0, rfl, lt_of_blk b11, by omega, fun j q hq => by
        cases j with
        | zero => simp at hq; subst hq; exact cell_of_blk b11
        | succ j => simp at hq⟩⟩
    have HPK := Lib.hid hpk; clear hpk b11
    have hl11 := Nat.lt_of_lt_of_le hl10 f11.size
    have hl11' := Nat.lt_of_lt_of_le hl10' f11.size
    have x0 := (f11.cb hl10 (fun h => h)).trans y0
    have x1 := (f11.cb hl10 (fun h => h)).trans y1
    have x2 := (f11.cb hl10 (fun h => h)).trans y2
    have x11 := (f11.cb hl10' (fun h => h)).trans y11
    clear y0 y1 y2 y11
    refine (mount_calls (H10.out.keep f11) _ 1 [n] HPK.out (by simp)).mono ?_; rintro e w12 ⟨rfl, s12, f12⟩
    obtain ⟨S4, hS4⟩ : ∃ S4, S4 = Shf0.mount S3 [n] := ⟨_, rfl⟩
    have hT4 := TT4.out
    rw [← hS4] at s12 hT4
    have H12 := Lib.hid s12; clear s12 hS4 TT4
    have TT4 := Lib.hid hT4; clear hT4
    have y0 := (f12.cb hl11 (HNO.out _ hn3)).trans x0
    have y1 := (f12.cb hl11 (HNO.out _ hn3)).trans x1
    have y2 := (f12.cb hl11 (HNO.out _ hn3)).trans x2
    have y11 := (f12.cb hl11' (HNO.out _ hn1)).trans x11
    have hl12' := Nat.lt_of_lt_of_le hl11' f12.size
    have F12 := Lib.hid ((F10.out.trans f11).trans' f12 (U := fun _ => False) (fun _ _ h => h) (fun i hi h => by omega))
    clear x0 x1 x2 x11 f11 f12 HPK
    go_wp2_with fail
    refine (sread_calls H12.out ⟨d, area, idx⟩).mono ?_; rintro e w13 ⟨rfl, f13⟩
    rw [TT4.out]
    have z11 := (f13.cb hl12' (fun h => h)).trans y11
    have F13 := Lib.hid (F12.out.trans f13)
    clear y0 y1 y2 y11 f13
    obtain ⟨m, hm⟩ : ∃ m, m = clamp n := ⟨_, rfl⟩
    rw [← hm]
    have hm64 : m ≤ 64 := by rw [hm]; exact clamp_le n
    have hmm : max 0 (min n 64) = (m : Int) := by rw [hm]; unfold clamp; omega
    clear hm
    obtain ⟨RX, hRX⟩ : ∃ RX : ByteArray, RX = ⟨(XB.data.toList.take m ++ XA.data.toList.drop m).toArray⟩ := ⟨_, rfl⟩
    have heq : RX = XB.extract 0 m ++ XA.extract m 64 := mix_eq7 HSA.out (by rw [hRX])
    simp only
    rw [← hRX]
    clear hRX
    have hb : (RX.toList == (XB.extract 0 m ++ XA.extract m 64).toList) = true := (Lib.bytes_beq_iff _ _).2 heq
    clear heq
    have m0 : (0 : Int) ≤ m := by omega
    have m1 : (m : Int) ≤ 64 := by omega
    have hsa := HSA.out
    have hsb := HSB.out
    go_wp2_with fail
    refine wp_region_seq (fun _ => True) [0, 1, 2, 3, 4, 5, 6, 7, 8, 9, 10, 11, 12, 13, 14, 15, 16, 17, 18, 19, 20, 21, 22, 23, 24] [24] (by kernel_rfl) (by kernel_rfl) (by kernel_rfl) trivial ?_
    simp only [pickOps, List.filterMap_cons, List.filterMap_nil, List.getElem?_toArray, List.getElem?_cons_zero, List.getElem?_cons_succ, Option.map_some]
    repeat (refine seqH_read (v := ?_) (by rfl) (by rfl) ?_ ?_; rotate_left; (focus (intro W _; go_simp; try with_reducible rfl)); simp only [Act.put, List.setIfInBounds_toArray, List.set_cons_zero, List.set_cons_succ])
    refine seqH_eff (by rfl) (by rfl) fun K hK => ?_
    unfold Oper.wp
    go_simp
    refine hK.out _ _ trivial ?_
    refine seqH_nil ?_
    go_wp2_with fail
    go_ret
    exact ⟨rfl, F13.out.drew⟩
  · have hw := swrite_calls H7.out ⟨d, area, idx⟩ XA
    rw [Shf0.write_out ht] at hw
    refine hw.mono ?_; rintro e w8 ⟨rfl, -, f8⟩
    clear hw
    go_wp2_with fail
    go_ret
    exact ⟨rfl, F7.out.trans' f8 (fun _ _ h => h) (fun i hi h => by omega)⟩

theorem f87 : fieldsOf Try.prog 87 = some [(23, 0), (25, 6), (5, 9), (5, 10), (3, 11)] := by kernel_rfl
theorem f23 : fieldsOf Try.prog 23 = some [(3, 0), (3, 1), (3, 2), (3, 3), (3, 4), (3, 5)] := by kernel_rfl
theorem f25 : fieldsOf Try.prog 25 = some [(3, 0), (3, 1), (3, 2)] := by kernel_rfl
theorem cl87 : Try.prog.cellsOf 87 = 12 := by kernel_rfl
theorem cl23 : Try.prog.cellsOf 23 = 6 := by kernel_rfl
theorem cl25 : Try.prog.cellsOf 25 = 3 := by kernel_rfl

section
variable {H : Type} {enc : TypeId × Value → H} {w : World}
/-- An integer field. -/
theorem int_field {base : Nat} {spare : Nat → Bool} {held : Bool} {fuel : Nat} {l : List Value} {off : Nat} {y : DataW H × List MemPlace} (h : DataW.trod enc Try.prog w base spare held fuel 3 ((l.drop off).take (Try.prog.cellsOf 3)) = some y) : ∃ n : Int, l[off]? = some (.int .i64 n) := by
  obtain ⟨n, e, -, -⟩ := DataW.trod_int opTypes.u3 h
  rw [opTypes.c3] at e
  refine ⟨n, ?_⟩
  have : ((l.drop off).take 1)[0]? = some (.int .i64 n) := by rw [e]; rfl
  rw [List.getElem?_take_of_lt (by omega), List.getElem?_drop] at this
  simpa using this
theorem u8_field {base : Nat} {spare : Nat → Bool} {held : Bool} {fuel : Nat} {l : List Value} {off : Nat} {y : DataW H × List MemPlace} (h : DataW.trod enc Try.prog w base spare held fuel 5 ((l.drop off).take (Try.prog.cellsOf 5)) = some y) : ∃ x : UInt8, l[off]? = some (B x) := by
  obtain ⟨n, e, -, hw⟩ := DataW.trod_int opTypes.u5 h
  rw [opTypes.c5] at e
  obtain ⟨x, hx⟩ := u8_B hw
  refine ⟨x, ?_⟩
  have : ((l.drop off).take 1)[0]? = some (.int .u8 n) := by rw [e]; rfl
  rw [List.getElem?_take_of_lt (by omega), List.getElem?_drop] at this
  rw [← hx]
  simpa using this
theorem sub_at {l : List Value} {off n i : Nat} {v : Value} (h : (((l.drop off).take n))[i]? = some v) : l[off + i]? = some v := by
  rw [List.getElem?_take] at h
  split at h
  · rwa [List.getElem?_drop] at h
  · cases h
/-- A configuration among cells. -/
theorem cfg_field {base : Nat} {spare : Nat → Bool} {held : Bool} {fuel : Nat} {l : List Value} {off : Nat} {y : DataW H × List MemPlace} (h : DataW.trod enc Try.prog w base spare held fuel 23 ((l.drop off).take (Try.prog.cellsOf 23)) = some y) : ∃ c : Shf0.Cfg, ∀ i, i < 6 → l[off + i]? = (cfgA c)[i]? := by
  obtain ⟨-, n, hf⟩ := field_trod f23 h
  obtain ⟨y0, h0⟩ := hf 0 3 0 rfl
  obtain ⟨y1, h1⟩ := hf 1 3 1 rfl
  obtain ⟨y2, h2⟩ := hf 2 3 2 rfl
  obtain ⟨y3, h3⟩ := hf 3 3 3 rfl
  obtain ⟨y4, h4⟩ := hf 4 3 4 rfl
  obtain ⟨y5, h5⟩ := hf 5 3 5 rfl
  obtain ⟨n0, e0⟩ := int_field h0
  obtain ⟨n1, e1⟩ := int_field h1
  obtain ⟨n2, e2⟩ := int_field h2
  obtain ⟨n3, e3⟩ := int_field h3
  obtain ⟨n4, e4⟩ := int_field h4
  obtain ⟨n5, e5⟩ := int_field h5
  refine ⟨⟨n0, n1, n2, n3, n4, n5⟩, fun i hi => ?_⟩
  have : i = 0 ∨ i = 1 ∨ i = 2 ∨ i = 3 ∨ i = 4 ∨ i = 5 := by omega
  rcases this with rfl | rfl | rfl | rfl | rfl | rfl
  · exact sub_at e0
  · exact sub_at e1
  · exact sub_at e2
  · exact sub_at e3
  · exact sub_at e4
  · exact sub_at e5
theorem plc_field {base : Nat} {spare : Nat → Bool} {held : Bool} {fuel : Nat} {l : List Value} {off : Nat} {y : DataW H × List MemPlace} (h : DataW.trod enc Try.prog w base spare held fuel 25 ((l.drop off).take (Try.prog.cellsOf 25)) = some y) : ∃ p : Shf0.Place, ∀ i, i < 3 → l[off + i]? = (plcA p)[i]? := by
  obtain ⟨-, n, hf⟩ := field_trod f25 h
  obtain ⟨y0, h0⟩ := hf 0 3 0 rfl
  obtain ⟨y1, h1⟩ := hf 1 3 1 rfl
  obtain ⟨y2, h2⟩ := hf 2 3 2 rfl
  obtain ⟨n0, e0⟩ := int_field h0
  obtain ⟨n1, e1⟩ := int_field h1
  obtain ⟨n2, e2⟩ := int_field h2
  refine ⟨⟨n0, n1, n2⟩, fun i hi => ?_⟩
  have : i = 0 ∨ i = 1 ∨ i = 2 := by omega
  rcases this with rfl | rfl | rfl
  · exact sub_at e0
  · exact sub_at e1
  · exact sub_at e2
/-- The argument, opened. -/
theorem torn_of_cells {base : Nat} {spare : Nat → Bool} {held : Bool} {fuel : Nat} {cs : Array Value} {x : DataW H × List MemPlace} (h : DataW.trod enc Try.prog w base spare held fuel 87 cs.toList = some x) : ∃ c p a b n, cs = tornA c p a b n := by
  obtain ⟨hl, n, hf⟩ := field_trod f87 h
  rw [cl87] at hl
  obtain ⟨y0, h0⟩ := hf 0 23 0 rfl
  obtain ⟨y1, h1⟩ := hf 1 25 6 rfl
  obtain ⟨y2, h2⟩ := hf 2 5 9 rfl
  obtain ⟨y3, h3⟩ := hf 3 5 10 rfl
  obtain ⟨y4, h4⟩ := hf 4 3 11 rfl
  obtain ⟨c, ec⟩ := cfg_field h0
  obtain ⟨p, ep⟩ := plc_field h1
  obtain ⟨a, ea⟩ := u8_field h2
  obtain ⟨b, eb⟩ := u8_field h3
  obtain ⟨m, em⟩ := int_field h4
  refine ⟨c, p, a, b, m, ?_⟩
  apply Array.ext_getElem?
  intro i
  rw [← Array.getElem?_toList]
  by_cases hi : i < 12
  · have : i = 0 ∨ i = 1 ∨ i = 2 ∨ i = 3 ∨ i = 4 ∨ i = 5 ∨ i = 6 ∨ i = 7 ∨ i = 8 ∨ i = 9 ∨ i = 10 ∨ i = 11 := by omega
    rcases this with rfl | rfl | rfl | rfl | rfl | rfl | rfl | rfl | rfl | rfl | rfl | rfl
    · exact ec 0 (by omega)
    · exact ec 1 (by omega)
    · exact ec 2 (by omega)
    · exact ec 3 (by omega)
    · exact ec 4 (by omega)
    · exact ec 5 (by omega)
    · exact ep 0 (by omega)
    · exact ep 1 (by omega)
    · exact ep 2 (by omega)
    · exact ea
    · exact eb
    · exact em
  · rw [List.getElem?_eq_none (by omega), Array.getElem?_eq_none (by simp [tornA]; omega)]
end

set_option maxRecDepth 100000 in
theorem shelfTornWrites_lifted (os : Os) (started : os.Started) (H : Type) (enc : TypeId × Value → H) :
    ReturnsInHanded {} Try.checked os 12 .any (Rows.shelfTornWritesSpec.pre6 enc Try.prog Try.f12 Rows.shelfTornWritesRow.domain false) (Rows.shelfTornWritesSpec.post enc Try.prog Try.f12 false true false false) := by
  refine returnsInHanded_of_change (C := Try.checked) own started (by kernel_rfl) Try.func12
    (ChangeSpec.witness6 (enc := enc) (C := Try.checked) false ⟨#[], #[.agg #[.int .i64 0, .int .i64 0, .int .i64 0, .int .i64 0, .int .i64 0, .int .i64 0, .int .i64 0, .int .i64 0, .int .i64 0, .int .u8 0, .int .u8 0, .int .i64 0]], []⟩ 8 (by kernel_rfl) (by kernel_rfl) (by kernel_rfl) (by kernel_rfl)) ?_
  intro W base args ds gs before hval0 hW hcnd _
  have hval : ∀ (j : Nat) t v, Try.f12.params[j]? = some t → args[j]? = some v → Value.okWide Try.prog W .any base t v := hval0
  have hW' := hW
  obtain ⟨p, q, hA0, hV, rfl, hfz, hnd⟩ := hW
  have hA : DataW.TrodAll enc Try.prog W 0 (fun _ => true) true Try.f12.params.toList args.toList ds p := hA0
  rw [Try.params12] at hA hval
  obtain ⟨v0, vs0, d0, ds0, p0, q0, hargs, rfl, rfl, h0, r0⟩ := trodAll_cons hA
  obtain ⟨rfl, rfl, rfl⟩ := trodAll_nil r0
  obtain rfl : args = #[v0] := by cases args; simp_all
  obtain ⟨rfl, rfl⟩ := trodVars_none hV
  obtain ⟨cs, rfl, -⟩ := okWide_struct Try.underlying87 (hval 0 87 v0 rfl rfl)
  obtain ⟨c, pl, a, b, n, rfl⟩ : ∃ c p a b n, cs = tornA c p a b n := by obtain ⟨fuel, hf⟩ := h0; exact torn_of_cells hf
  clear hA0 hval0
  refine (shelfTorn_walk c pl a b n W).mono fun e W' ⟨he, hb⟩ => ?_
  subst he
  exact ⟨_, rfl, law_post laidOut Try.underlying4 hW' rfl rfl (by kernel_rfl) ⟨rfl, rfl, rfl⟩ hb.below⟩

/-- The statement. -/
theorem shelfTornWrites_proved : Rows.ShelfTornWritesSaid :=
  OpenClaim.holds_of_wide 12 Try.f12 rfl rfl rfl rfl rfl rfl rfl ⟨rfl, rfl, rfl, rfl, rfl⟩ rfl rfl rfl rfl rfl (by kernel_rfl) Try.func12 (by kernel_rfl)
    (of_decide_eq_true (by kernel_rfl)) (by unfold Func.isWrapper; first | (rw [if_pos (by decide +kernel)]; kernel_rfl) | (rw [if_neg (by decide +kernel)]; exact ⟨rfl, rfl⟩))
    (fun os started H enc _ => shelfTornWrites_lifted os started H enc)
#print axioms shelfTornWrites_proved
end Go.Proofs.Ytmbkmfpnjpkakaa
