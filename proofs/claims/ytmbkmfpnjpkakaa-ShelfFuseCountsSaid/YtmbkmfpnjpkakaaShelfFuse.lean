/- 'solventlaw17.ShelfFuseCounts' answers true for every input, and its arguments read as before; no condition. -/
import Derived.Test.YtmbkmfpnjpkakaaY0
import Derived.Test.YtmbkmfpnjpkakaaY2
namespace Go.Proofs.Ytmbkmfpnjpkakaa
open Go.ChangeShapes Go.WideShapes Go.ChangeAt Go.RowKit Go.Im Go.Dsk0

set_option maxRecDepth 100000 in
set_option maxHeartbeats 3000000 in
theorem shelfFuse_walk (c : Shf0.Cfg) (l : List Shf0.SOp) (v : Value) (n3 : Int) (x : UInt8) (w : World) (hl : SOpsAt w v l (fun b => b < w.heap.size)) :
    Calls Try.prog 11 #[.agg (playsA c v n3), B x] w fun e w' => e = .returned (.bool true) ∧ Fr (fun _ => False) w w' := by
  obtain ⟨N, hN⟩ : ∃ N : Nat, N = x.toNat % 41 := ⟨_, rfl⟩
  have hN40 : N ≤ 40 := by omega
  obtain ⟨zx, hzx⟩ : ∃ zx : Int, zx = x.toNat := ⟨_, rfl⟩
  have hx256 : x.toNat < 256 := x.toNat_lt
  have hz0 : 0 ≤ zx := by omega
  have hz1 : zx < 256 := by omega
  have hB : B x = .int .u8 zx := by rw [hzx]; rfl
  have hmod : zx % 41 = (N : Int) := by omega
  rw [hB]
  have HL := Lib.hid hl
  clear hl hB hN hzx hx256
  have hbl := fun W h => built_calls c l v W h
  unfold cfgV at hbl
  have HBL := Lib.hid hbl; clear hbl
  unfold playsA
  obtain ⟨i0, hi, hy0, hy1, hy2⟩ := info_parts info5
  have HY1 := Lib.hid hy1; clear hy1
  have HY2 := Lib.hid hy2; clear hy2
  go_enter Try.func11, Try.ntmps11
  go_wp2_with (first
    | (refine im_box rfl 77 _ rfl rfl ?_; intro w1 b1 f1 z1; have Z1 := Lib.hid z1; clear z1; have p0 : w1.cell? ⟨w.heap.size, 0, none⟩ = some (.int .i64 c.disks) := cell_of_blk b1; have p1 : w1.cell? ⟨w.heap.size, 1, none⟩ = some (.int .i64 c.racks) := cell_of_blk b1; have p2 : w1.cell? ⟨w.heap.size, 2, none⟩ = some (.int .i64 c.rows) := cell_of_blk b1; have p3 : w1.cell? ⟨w.heap.size, 3, none⟩ = some (.int .i64 c.spare) := cell_of_blk b1; have p4 : w1.cell? ⟨w.heap.size, 4, none⟩ = some (.int .i64 c.log) := cell_of_blk b1; have p5 : w1.cell? ⟨w.heap.size, 5, none⟩ = some (.int .i64 c.image) := cell_of_blk b1; have p6 : w1.cell? ⟨w.heap.size, 6, none⟩ = some v := cell_of_blk b1; have hl1 := lt_of_blk b1; clear b1))
  refine (ssanity_calls w1).mono ?_; rintro e w2 ⟨rfl, f2⟩
  have q0 := (f2.cb hl1 (fun h => h)).trans p0
  have q1 := (f2.cb hl1 (fun h => h)).trans p1
  have q2 := (f2.cb hl1 (fun h => h)).trans p2
  have q3 := (f2.cb hl1 (fun h => h)).trans p3
  have q4 := (f2.cb hl1 (fun h => h)).trans p4
  have q5 := (f2.cb hl1 (fun h => h)).trans p5
  have q6 := (f2.cb hl1 (fun h => h)).trans p6
  have hl2 := Nat.lt_of_lt_of_le hl1 f2.size
  have f12 := f1.trans f2
  clear p0 p1 p2 p3 p4 p5 p6
  have HL2 : Hid (SOpsAt w2 v l (fun b => b < w2.heap.size)) := Lib.hid (HL.out.grow f12)
  have F2 := Lib.hid f12
  clear f12 f1 f2
  go_wp2_with fail
  refine (HBL.out w2 HL2.out).mono ?_
  rintro e w3 (⟨-, rfl, f3⟩ | ⟨hv, hsm, -, s, rfl, h3, f3⟩)
  · go_wp2_with fail
    go_ret
    exact ⟨rfl, F2.out.trans f3⟩
  clear HBL HL2 HL q1 q2 q3 q4 q5 q6
  have r0 := (f3.cb hl2 (fun h => h)).trans q0
  have hl3 := Nat.lt_of_lt_of_le hl2 f3.size
  have F3 := Lib.hid (F2.out.trans f3)
  have H3 := Lib.hid h3; clear h3
  have HNO : Hid (∀ q, q < w2.heap.size → ¬ (w2.heap.size ≤ q ∧ q < w3.heap.size)) := Lib.hid (fun q h1 h2 => by omega)
  have HNW : Hid (∀ q, q < w.heap.size → ¬ (w2.heap.size ≤ q ∧ q < w3.heap.size)) := Lib.hid (fun q h1 h2 => by have := F2.out.size; omega)
  obtain ⟨S, hS⟩ : ∃ S, S = Shf0.play (Shf0.newS c) l := ⟨_, rfl⟩
  rw [← hS] at H3
  clear hS q0 f3
  obtain ⟨D, hD⟩ : ∃ D : Nat, c.disks = (D : Int) := ⟨c.disks.toNat, by have := hv.1.1; omega⟩
  rw [hD] at r0
  have hD64 : D ≤ 64 := by have := hv.1.2; omega
  have HD := Lib.hid hD
  clear hv hsm hD
  go_wp2_with fail
  go_loopg [8] D (fun m t wr => ∃ k : Nat, m + k = D ∧ t = .int .i64 k ∧ wr = w3)
  case atStart => exact ⟨0, rfl, rfl, rfl⟩
  case round =>
    obtain ⟨k, hm, rfl, hwr⟩ := hrel
    subst hwr
    have HM := Lib.hid hm; clear hm
    by_cases hk : k < D
    · have hk1 : (k : Int) < D := by omega
      have hst := state_calls H3.out k
      by_cases hin : Shf0.state S k = 1
      · rw [hin] at hst
        have HIN := Lib.hid hin; clear hin
        have hkn : (k : Int) ≠ D := by omega
        go_wp2_with fail
        refine hst.mono ?_; rintro e w' ⟨rfl, rfl⟩
        go_wp2_with fail
        refine (mount_calls H3.out none 0 [] (nil_ints _ _) (by simp)).mono ?_; rintro e w4 ⟨rfl, s4, f4⟩
        have H4 := Lib.hid s4; clear s4
        have F4 := Lib.hid (F3.out.trans' f4 (U := fun _ => False) (fun _ _ h => h) (fun i hi h => HNW.out _ hi h))
        clear f4
        go_wp2_with fail
        refine (fuse_calls H4.out N).mono ?_; rintro e w5 ⟨rfl, s5, f5⟩
        have H5 := Lib.hid s5; clear s5
        have LIT := Lib.hid (Shf0.fuse_lit HIN.out (n := N) (by omega))
        have F5 := Lib.hid (F4.out.trans' f5 (U := fun _ => False) (fun _ _ h => h) (fun i hi h => HNW.out _ hi h))
        clear f5
        obtain ⟨S5, hS5⟩ : ∃ S5, S5 = Shf0.fuse (Shf0.mount S []) N := ⟨_, rfl⟩
        rw [← hS5] at H5 LIT
        clear hS5 H4 F4
        go_wp2_with fail
        obtain ⟨w0, hw0⟩ : ∃ w0, w0 = wr := ⟨_, rfl⟩
        have HNW0 : Hid (∀ q, q < w.heap.size → ¬ (w2.heap.size ≤ q ∧ q < w0.heap.size)) := by rw [hw0]; exact HNW
        go_loopg [9] N (fun m t wi => ∃ (i : Nat) (T : Shf0.Shelf), m + i = N ∧ t = .int .i64 i ∧ Shf0.Lit T k m ∧ ShelfAt wi (fun q => w2.heap.size ≤ q ∧ q < w0.heap.size) s T ∧ Fr (fun _ => False) w wi)
        case atStart => exact ⟨0, S5, rfl, rfl, LIT.out, by rw [hw0]; exact H5.out, F5.out⟩
        case round =>
          obtain ⟨i, T, hmi, rfl, hlit, hat, hfr⟩ := hrel
          have HMI := Lib.hid hmi; clear hmi
          have HT := Lib.hid hat; clear hat
          have HFR := Lib.hid hfr; clear hfr
          have LITT := Lib.hid hlit; clear hlit
          by_cases hi' : i < N
          · have hi1 : (i : Int) < N := by omega
            have hgk : gk + i = N := HMI.out
            obtain ⟨r, hr⟩ : ∃ r, gk = r + 1 := ⟨gk - 1, by omega⟩
            have hlf := Shf0.lit_flush (S := T) (d := k) (k := r) (by omega) (by have := LITT.out; rw [hr] at this; simpa using this)
            have HLF := Lib.hid hlf.2
            have hz := hlf.1
            have hfl := sflush_calls HT.out k
            rw [hz] at hfl
            clear hlf hz
            go_wp2_with fail
            refine hfl.mono ?_; rintro e w6 ⟨rfl, s6, f6, -⟩
            clear hfl
            have H6 := Lib.hid s6; clear s6
            have F6 := Lib.hid (HFR.out.trans' f6 (U := fun _ => False) (fun _ _ h => h) (fun i hi h => HNW0.out _ hi h))
            clear f6
            go_wp2_with fail
            go_roundg r
            case measure => omega
            case rel => exact ⟨i + 1, _, by omega, by go_num, HLF.out, H6.out, F6.out⟩
          · have hin : i = N := by have := HMI.out; omega
            subst hin
            clear hi'
            have hg0 : gk = 0 := by have := HMI.out; omega
            have hlit := LITT.out
            rw [hg0] at hlit
            obtain ⟨hb1, hb2⟩ := Shf0.lit_burn hlit
            have hup := up_calls HT.out
            rw [hlit.off] at hup
            have hfl := sflush_calls HT.out k
            rw [hb1] at hfl
            have HB2 := Lib.hid hb2
            clear hlit hb1 hb2
            go_wp2_with fail
            refine hup.mono ?_; rintro e w' ⟨rfl, rfl⟩
            clear hup
            go_wp2_with fail
            refine hfl.mono ?_; rintro e w6 ⟨rfl, s6, f6, -⟩
            clear hfl
            have H6 := Lib.hid s6; clear s6
            have F6 := Lib.hid (HFR.out.trans' f6 (U := fun _ => False) (fun _ _ h => h) (fun i hi h => HNW0.out _ hi h))
            clear f6
            obtain ⟨E, hE⟩ : ∃ E, E = (Shf0.flush T k).2 := ⟨_, rfl⟩
            rw [← hE] at H6 HB2
            clear hE
            have hup := up_calls H6.out
            rw [HB2.out.off] at hup
            have hfa := flushAll_calls H6.out
            rw [Shf0.down_flushAll HB2.out] at hfa
            have HFA := Lib.hid hfa; clear hfa
            go_wp2_with fail
            refine hup.mono ?_; rintro e w' ⟨rfl, rfl⟩
            clear hup
            go_wp2_with fail
            refine HFA.out.mono ?_; rintro e w7 ⟨rfl, s7, f7⟩
            have H7 := Lib.hid s7; clear s7
            have F7 := Lib.hid (F6.out.trans' f7 (U := fun _ => False) (fun _ _ h => h) (fun i hi h => HNW0.out _ hi h))
            clear f7 HFA
            go_wp2_with fail
            have hv7 := H7.out.ok.cfg
            have hrd := sread_calls H7.out ⟨k, 1, 0⟩
            rw [Shf0.down_read HB2.out hv7] at hrd
            have HV7 := Lib.hid hv7; clear hv7
            refine hrd.mono ?_; rintro e w8 ⟨rfl, f8⟩
            clear hrd
            have H8 := Lib.hid (H7.out.keep f8)
            have F8 := Lib.hid (F7.out.trans f8)
            clear f8
            go_wp2_with (first
              | (refine im_make rfl 70 _ _ rfl u70 hi hy0 64 rfl rfl rfl rfl (by rw [HY2.out]; omega) (by omega) ?_; intro w9 b9 f9 z9; rw [HY1.out] at b9; obtain ⟨ncs, nb, nh⟩ := made64 b9; have NB := Lib.hid nb; have NH := Lib.hid nh; clear nb nh b9 z9)
              | (refine im_back rfl 70 9 _ rfl rfl u70 u5 u9 NB.out (by simp [zeros]) NH.out ?_))
            have hwr := swrite_calls (H8.out.keep f9) ⟨k, 1, 0⟩ z64S
            rw [z64S_list, Shf0.down_write HB2.out HV7.out (by simp [zeros])] at hwr
            refine hwr.mono ?_; rintro e w10 ⟨rfl, s10, f10⟩
            have H10 := Lib.hid s10; clear s10 hwr
            have F10 := Lib.hid ((F8.out.trans f9).trans' f10 (U := fun _ => False) (fun _ _ h => h) (fun i hi h => HNW0.out _ hi h))
            clear f9 f10 NB NH
            go_wp2_with fail
            refine (mount_calls H10.out none 0 [] (nil_ints _ _) (by simp)).mono ?_; rintro e w11 ⟨rfl, s11, f11⟩
            have H11 := Lib.hid s11; clear s11
            have F11 := Lib.hid (F10.out.trans' f11 (U := fun _ => False) (fun _ _ h => h) (fun i hi h => HNW0.out _ hi h))
            clear f11
            have hup := up_calls H11.out
            rw [Shf0.up_mount] at hup
            have hfl := sflush_calls H11.out k
            rw [Shf0.down_after HB2.out] at hfl
            go_wp2_with fail
            refine hup.mono ?_; rintro e w' ⟨rfl, rfl⟩
            clear hup
            go_wp2_with fail
            refine hfl.mono ?_; rintro e w12 ⟨rfl, -, f12, -⟩
            clear hfl
            have F12 := Lib.hid (F11.out.trans' f12 (U := fun _ => False) (fun _ _ h => h) (fun i hi h => HNW0.out _ hi h))
            go_wp2_with fail
            go_ret
            exact ⟨rfl, F12.out⟩
      · have HIN := Lib.hid hin
        obtain ⟨t, ht⟩ : ∃ t, t = Shf0.state S k := ⟨_, rfl⟩
        rw [← ht] at hst hin
        clear ht
        go_wp2_with fail
        refine hst.mono ?_; rintro e w' ⟨rfl, rfl⟩
        go_wp2_with fail
        have hn : gk + k = D := HM.out
        go_roundg (gk - 1)
        case measure => omega
        case rel => exact ⟨k + 1, by omega, by go_num, rfl⟩
    · have hkn : k = D := by have := HM.out; omega
      subst hkn
      clear hk
      go_wp2_with fail
      go_ret
      exact ⟨rfl, F3.out⟩

set_option maxRecDepth 100000 in
theorem shelfFuseCounts_lifted (os : Os) (started : os.Started) (H : Type) (enc : TypeId × Value → H) :
    ReturnsInHanded {} Try.checked os 11 .any (Rows.shelfFuseCountsSpec.pre6 enc Try.prog Try.f11 Rows.shelfFuseCountsRow.domain false) (Rows.shelfFuseCountsSpec.post enc Try.prog Try.f11 false true false false) := by
  refine returnsInHanded_of_change (C := Try.checked) own started (by kernel_rfl) Try.func11
    (ChangeSpec.witness6 (enc := enc) (C := Try.checked) false ⟨#[], #[.agg #[.int .i64 0, .int .i64 0, .int .i64 0, .int .i64 0, .int .i64 0, .int .i64 0, .slice none 0 0, .int .i64 0], .int .u8 0], []⟩ 8 (by kernel_rfl) (by kernel_rfl) (by kernel_rfl) (by kernel_rfl)) ?_
  intro W base args ds gs before hval0 hW hcnd _
  have hval : ∀ (j : Nat) t v, Try.f11.params[j]? = some t → args[j]? = some v → Value.okWide Try.prog W .any base t v := hval0
  have hW' := hW
  obtain ⟨p, q, hA0, hV, rfl, hfz, hnd⟩ := hW
  have hA : DataW.TrodAll enc Try.prog W 0 (fun _ => true) true Try.f11.params.toList args.toList ds p := hA0
  rw [Try.params11] at hA hval
  obtain ⟨v0, vs0, d0, ds0, p0, q0, hargs, rfl, rfl, h0, r0⟩ := trodAll_cons hA
  obtain ⟨v1, vs1, d1, ds1, p1, q1, rfl, rfl, rfl, h1, r1⟩ := trodAll_cons r0
  obtain ⟨rfl, rfl, rfl⟩ := trodAll_nil r1
  obtain rfl : args = #[v0, v1] := by cases args; simp_all
  obtain ⟨rfl, rfl⟩ := trodVars_none hV
  obtain ⟨cs0, rfl, -⟩ := okWide_struct Try.underlying77 (hval 0 77 v0 rfl rfl)
  obtain ⟨c, sv, cn, sl, rfl, hsl⟩ : ∃ c v n l, cs0 = playsA c v n ∧ SOpsAt W v l (fun b => b < W.heap.size) := by obtain ⟨fuel, hf⟩ := h0; exact plays_of_cells hf
  obtain ⟨a1, rfl, rfl, rfl, w1⟩ := open_int Try.underlying5 (hval 1 5 v1 rfl rfl) h1
  obtain ⟨x1, hx1⟩ := u8_B w1
  clear hA0 hval0
  have hwalk := shelfFuse_walk c sl sv cn x1 W hsl
  rw [← hx1] at hwalk
  refine hwalk.mono fun e W' ⟨he, hb⟩ => ?_
  subst he
  exact ⟨_, rfl, law_post laidOut Try.underlying4 hW' rfl rfl (by kernel_rfl) ⟨rfl, rfl, rfl⟩ hb.below⟩

/-- The statement. -/
theorem shelfFuseCounts_proved : Rows.ShelfFuseCountsSaid :=
  OpenClaim.holds_of_wide 11 Try.f11 rfl rfl rfl rfl rfl rfl rfl ⟨rfl, rfl, rfl, rfl, rfl⟩ rfl rfl rfl rfl rfl (by kernel_rfl) Try.func11 (by kernel_rfl)
    (of_decide_eq_true (by kernel_rfl)) (by unfold Func.isWrapper; first | (rw [if_pos (by decide +kernel)]; kernel_rfl) | (rw [if_neg (by decide +kernel)]; exact ⟨rfl, rfl⟩))
    (fun os started H enc _ => shelfFuseCounts_lifted os started H enc)
#print axioms shelfFuseCounts_proved
end Go.Proofs.Ytmbkmfpnjpkakaa
