/- 'solventlaw17.ShelfNewMatchesSpec' answers true for every input, and its arguments read as before; no condition. -/
import Derived.Test.YtmbkmfpnjpkakaaZ5
namespace Go.Proofs.Ytmbkmfpnjpkakaa
open Go.ChangeShapes Go.WideShapes Go.ChangeAt Go.RowKit Go.Im Go.Dsk0

set_option maxRecDepth 100000 in
set_option maxHeartbeats 4000000 in
theorem shelfNew_walk (c : Shf0.Cfg) (at_ : Shf0.Place) (w : World) :
    Calls Try.prog 3 #[.agg (cfgA c), .agg (plcA at_)] w fun e w' => e = .returned (.bool true) ∧ Fr (fun _ => False) w w' := by
  by_cases hv : Shf0.valid c
  · cases hsm : Shf0.small c with
    | false =>
      have hs := fun W => small_calls c W hv
      rw [hsm] at hs
      have HS := Lib.hid hs
      clear hs hsm hv
      unfold cfgV at HS
      go_enter Try.func3, Try.ntmps3
      go_wp2_with (first
        | (refine im_box rfl 23 _ rfl rfl ?_; intro w1 b1 f1 z1; have Z1 := Lib.hid z1; clear z1; obtain ⟨p0, p1, p2, p3, p4, p5⟩ := cfgA_cells (c := c) b1; have hl1 := lt_of_blk b1; clear b1)
        | (refine im_box rfl 25 _ rfl rfl ?_; intro wb bb fb zb; have Zb := Lib.hid zb; clear zb; obtain ⟨s0, s1, s2⟩ := plc_cells (p := at_) bb; have hlb := lt_of_blk bb; clear bb))
      refine (ssanity_calls wb).mono ?_; rintro e w2 ⟨rfl, f2⟩
      have g2 := fb.trans f2
      have q0 := (g2.cb hl1 (fun h => h)).trans p0
      have q1 := (g2.cb hl1 (fun h => h)).trans p1
      have q2 := (g2.cb hl1 (fun h => h)).trans p2
      have q3 := (g2.cb hl1 (fun h => h)).trans p3
      have q4 := (g2.cb hl1 (fun h => h)).trans p4
      have q5 := (g2.cb hl1 (fun h => h)).trans p5
      have tt0 := (f2.cb hlb (fun h => h)).trans s0
      have tt1 := (f2.cb hlb (fun h => h)).trans s1
      have tt2 := (f2.cb hlb (fun h => h)).trans s2
      have hl2 := Nat.lt_of_lt_of_le hl1 g2.size
      have hlb2 := Nat.lt_of_lt_of_le hlb f2.size
      have F2 := Lib.hid (f1.trans g2)
      clear p0 p1 p2 p3 p4 p5 s0 s1 s2 hl1 hlb f1 f2 fb g2
      go_wp2_with fail
      refine (HS.out w2).mono ?_; rintro e w3 ⟨rfl, f3⟩
      go_wp2_with fail
      go_ret
      exact ⟨rfl, F2.out.trans f3⟩
    | true =>
      have hs := fun W => small_calls c W hv
      rw [hsm] at hs
      have hnw := fun W => snew_ok c W hv (small_sec hsm)
      have hrn := fun W => rsnew_ok c W hv (small_sec hsm)
      have HSM := Lib.hid hsm
      have HS := Lib.hid hs
      have HNW := Lib.hid hnw
      have HRN := Lib.hid hrn
      clear hs hnw hrn hsm hv
      unfold cfgV at HS HNW HRN
      go_enter Try.func3, Try.ntmps3
      go_wp2_with (first
        | (refine im_box rfl 23 _ rfl rfl ?_; intro w1 b1 f1 z1; have Z1 := Lib.hid z1; clear z1; obtain ⟨p0, p1, p2, p3, p4, p5⟩ := cfgA_cells (c := c) b1; have hl1 := lt_of_blk b1; clear b1)
        | (refine im_box rfl 25 _ rfl rfl ?_; intro wb bb fb zb; have Zb := Lib.hid zb; clear zb; obtain ⟨s0, s1, s2⟩ := plc_cells (p := at_) bb; have hlb := lt_of_blk bb; clear bb))
      refine (ssanity_calls wb).mono ?_; rintro e w2 ⟨rfl, f2⟩
      have g2 := fb.trans f2
      have q0 := (g2.cb hl1 (fun h => h)).trans p0
      have q1 := (g2.cb hl1 (fun h => h)).trans p1
      have q2 := (g2.cb hl1 (fun h => h)).trans p2
      have q3 := (g2.cb hl1 (fun h => h)).trans p3
      have q4 := (g2.cb hl1 (fun h => h)).trans p4
      have q5 := (g2.cb hl1 (fun h => h)).trans p5
      have tt0 := (f2.cb hlb (fun h => h)).trans s0
      have tt1 := (f2.cb hlb (fun h => h)).trans s1
      have tt2 := (f2.cb hlb (fun h => h)).trans s2
      have hl2 := Nat.lt_of_lt_of_le hl1 g2.size
      have hlb2 := Nat.lt_of_lt_of_le hlb f2.size
      have F2 := Lib.hid (f1.trans g2)
      clear p0 p1 p2 p3 p4 p5 s0 s1 s2 hl1 hlb f1 f2 fb g2
      go_wp2_with fail
      refine (HS.out w2).mono ?_; rintro e w3 ⟨rfl, f3⟩
      have r0 := (f3.cb hl2 (fun h => h)).trans q0
      have r1 := (f3.cb hl2 (fun h => h)).trans q1
      have r2 := (f3.cb hl2 (fun h => h)).trans q2
      have r3 := (f3.cb hl2 (fun h => h)).trans q3
      have r4 := (f3.cb hl2 (fun h => h)).trans q4
      have r5 := (f3.cb hl2 (fun h => h)).trans q5
      have uu0 := (f3.cb hlb2 (fun h => h)).trans tt0
      have uu1 := (f3.cb hlb2 (fun h => h)).trans tt1
      have uu2 := (f3.cb hlb2 (fun h => h)).trans tt2
      clear q0 q1 q2 q3 q4 q5 tt0 tt1 tt2
      have hl3 := Nat.lt_of_lt_of_le hl2 f3.size
      have hlb3 := Nat.lt_of_lt_of_le hlb2 f3.size
      have F3 := Lib.hid (F2.out.trans f3)
      clear f3
      go_wp2_with fail
      refine (HNW.out w3).mono ?_; rintro e w4 ⟨s, rfl, h4, f4⟩
      have q0 := (f4.cb hl3 (fun h => h)).trans r0
      have q1 := (f4.cb hl3 (fun h => h)).trans r1
      have q2 := (f4.cb hl3 (fun h => h)).trans r2
      have q3 := (f4.cb hl3 (fun h => h)).trans r3
      have q4 := (f4.cb hl3 (fun h => h)).trans r4
      have q5 := (f4.cb hl3 (fun h => h)).trans r5
      have tt0 := (f4.cb hlb3 (fun h => h)).trans uu0
      have tt1 := (f4.cb hlb3 (fun h => h)).trans uu1
      have tt2 := (f4.cb hlb3 (fun h => h)).trans uu2
      clear r0 r1 r2 r3 r4 r5 uu0 uu1 uu2
      have hl4 := Nat.lt_of_lt_of_le hl3 f4.size
      have hlb4 := Nat.lt_of_lt_of_le hlb3 f4.size
      have F4 := Lib.hid (F3.out.trans f4)
      have H4 := Lib.hid h4
      clear f4 h4
      go_wp2_with fail
      refine (HRN.out w4).mono ?_; rintro e w5 ⟨t, rfl, rsh, f5⟩
      have r0 := (f5.cb hl4 (fun h => h)).trans q0
      have r1 := (f5.cb hl4 (fun h => h)).trans q1
      have r2 := (f5.cb hl4 (fun h => h)).trans q2
      have r3 := (f5.cb hl4 (fun h => h)).trans q3
      have r4 := (f5.cb hl4 (fun h => h)).trans q4
      have r5 := (f5.cb hl4 (fun h => h)).trans q5
      have uu0 := (f5.cb hlb4 (fun h => h)).trans tt0
      have uu1 := (f5.cb hlb4 (fun h => h)).trans tt1
      have uu2 := (f5.cb hlb4 (fun h => h)).trans tt2
      clear q0 q1 q2 q3 q4 q5 tt0 tt1 tt2
      have hlb5 := Nat.lt_of_lt_of_le hlb4 f5.size
      have F5 := Lib.hid (F4.out.trans f5)
      have H5 := Lib.hid (H4.out.keep f5)
      have R5 := Lib.hid rsh
      clear f5 rsh r0 r1 r2 r3 r4 r5
      obtain ⟨S, hS⟩ : ∃ S, S = Shf0.newS c := ⟨_, rfl⟩
      rw [← hS] at H5 R5
      have hsS : Shf0.small S.cfg = true := by rw [hS]; exact HSM.out
      have HSS := Lib.hid hsS; clear hsS hS
      obtain ⟨b, hb⟩ : ∃ b, b = (Shf0.peek S at_).2 := ⟨_, rfl⟩
      obtain ⟨RB, hRB⟩ : ∃ RB : ByteArray, RB = ⟨(Shf0.peek S at_).1.toArray⟩ := ⟨_, rfl⟩
      have hp1 := peek_calls H5.out at_
      rw [← hb, ← hRB] at hp1
      have hp2 := fun W hW => rpeek_calls (R5.out.keep (w' := W) hW) at_
      rw [← hb, ← hRB] at hp2
      have HP1 := Lib.hid hp1
      have HP2 := Lib.hid hp2
      clear hp1 hp2 hb hRB
      unfold placeV at HP1 HP2
      go_wp2_with fail
      refine HP1.out.mono ?_; rintro e w6 ⟨rfl, f6⟩
      have v0 := (f6.cb hlb5 (fun h => h)).trans uu0
      have v1 := (f6.cb hlb5 (fun h => h)).trans uu1
      have v2 := (f6.cb hlb5 (fun h => h)).trans uu2
      have HF6 := Lib.hid f6; clear f6 uu0 uu1 uu2
      go_wp2_with fail
      refine (HP2.out w6 HF6.out).mono ?_; rintro e w7 ⟨rfl, f7⟩
      have HF7 := Lib.hid (HF6.out.trans f7); clear f7 v0 v1 v2
      have hbb : (RB.toList == RB.toList) = true := beq_self_eq_true _
      go_wp2_with fail
      refine (alike_calls (H5.out.keep HF7.out) (R5.out.keep HF7.out) HSS.out).mono ?_; rintro e w8 ⟨rfl, f8⟩
      go_wp2_with fail
      go_ret
      exact ⟨rfl, (F5.out.trans HF7.out).trans f8⟩
  · have hs := fun W => small_some c W
    have hnw := fun W => snew_bad c W hv
    have hrn := fun W => rsnew_bad c W hv
    have HS := Lib.hid hs
    have HNW := Lib.hid hnw
    have HRN := Lib.hid hrn
    clear hs hnw hrn hv
    unfold cfgV at HS HNW HRN
    go_enter Try.func3, Try.ntmps3
    go_wp2_with (first
      | (refine im_box rfl 23 _ rfl rfl ?_; intro w1 b1 f1 z1; have Z1 := Lib.hid z1; clear z1; obtain ⟨p0, p1, p2, p3, p4, p5⟩ := cfgA_cells (c := c) b1; have hl1 := lt_of_blk b1; clear b1)
      | (refine im_box rfl 25 _ rfl rfl ?_; intro wb bb fb zb; have Zb := Lib.hid zb; clear zb; obtain ⟨s0, s1, s2⟩ := plc_cells (p := at_) bb; have hlb := lt_of_blk bb; clear bb))
    refine (ssanity_calls wb).mono ?_; rintro e w2 ⟨rfl, f2⟩
    have g2 := fb.trans f2
    have q0 := (g2.cb hl1 (fun h => h)).trans p0
    have q1 := (g2.cb hl1 (fun h => h)).trans p1
    have q2 := (g2.cb hl1 (fun h => h)).trans p2
    have q3 := (g2.cb hl1 (fun h => h)).trans p3
    have q4 := (g2.cb hl1 (fun h => h)).trans p4
    have q5 := (g2.cb hl1 (fun h => h)).trans p5
    have tt0 := (f2.cb hlb (fun h => h)).trans s0
    have tt1 := (f2.cb hlb (fun h => h)).trans s1
    have tt2 := (f2.cb hlb (fun h => h)).trans s2
    have hl2 := Nat.lt_of_lt_of_le hl1 g2.size
    have hlb2 := Nat.lt_of_lt_of_le hlb f2.size
    have F2 := Lib.hid (f1.trans g2)
    clear p0 p1 p2 p3 p4 p5 s0 s1 s2 hl1 hlb f1 f2 fb g2
    go_wp2_with fail
    refine (HS.out w2).mono ?_; rintro e w3 ⟨b, rfl, f3⟩
    have hl3 := Nat.lt_of_lt_of_le hl2 f3.size
    have r0 := (f3.cb hl2 (fun h => h)).trans q0
    have r1 := (f3.cb hl2 (fun h => h)).trans q1
    have r2 := (f3.cb hl2 (fun h => h)).trans q2
    have r3 := (f3.cb hl2 (fun h => h)).trans q3
    have r4 := (f3.cb hl2 (fun h => h)).trans q4
    have r5 := (f3.cb hl2 (fun h => h)).trans q5
    clear q0 q1 q2 q3 q4 q5
    have F3 := Lib.hid (F2.out.trans f3)
    clear f3
    cases b
    · go_wp2_with fail
      go_ret
      exact ⟨rfl, F3.out⟩
    · go_wp2_with fail
      refine (HNW.out w3).mono ?_; rintro e w4 ⟨rfl, f4⟩
      have q0 := (f4.cb hl3 (fun h => h)).trans r0
      have q1 := (f4.cb hl3 (fun h => h)).trans r1
      have q2 := (f4.cb hl3 (fun h => h)).trans r2
      have q3 := (f4.cb hl3 (fun h => h)).trans r3
      have q4 := (f4.cb hl3 (fun h => h)).trans r4
      have q5 := (f4.cb hl3 (fun h => h)).trans r5
      clear r0 r1 r2 r3 r4 r5
      have F4 := Lib.hid (F3.out.trans f4)
      clear f4
      go_wp2_with fail
      refine (HRN.out w4).mono ?_; rintro e w5 ⟨rfl, f5⟩
      go_wp2_with fail
      go_ret
      exact ⟨rfl, F4.out.trans f5⟩

theorem plc_of_cells {H : Type} {enc : TypeId × Value → H} {w : World} {fuel : Nat} {cs : Array Value} {x : DataW H × List MemPlace} (h : DataW.trod enc Try.prog w 0 (fun _ => true) true fuel 25 cs.toList = some x) : ∃ p, cs = plcA p := by
  obtain ⟨hl, n, hf⟩ := field_trod f25 h
  rw [cl25] at hl
  obtain ⟨y0, h0⟩ := hf 0 3 0 rfl
  obtain ⟨y1, h1⟩ := hf 1 3 1 rfl
  obtain ⟨y2, h2⟩ := hf 2 3 2 rfl
  obtain ⟨n0, e0⟩ := int_field h0
  obtain ⟨n1, e1⟩ := int_field h1
  obtain ⟨n2, e2⟩ := int_field h2
  refine ⟨⟨n0, n1, n2⟩, ?_⟩
  apply Array.ext_getElem?
  intro i
  rw [← Array.getElem?_toList]
  by_cases hi : i < 3
  · have : i = 0 ∨ i = 1 ∨ i = 2 := by omega
    rcases this with rfl | rfl | rfl
    · exact e0
    · exact e1
    · exact e2
  · rw [List.getElem?_eq_none (by omega), Array.getElem?_eq_none (by simp [plcA]; omega)]

theorem cfg_of_cells {H : Type} {enc : TypeId × Value → H} {w : World} {fuel : Nat} {cs : Array Value} {x : DataW H × List MemPlace} (h : DataW.trod enc Try.prog w 0 (fun _ => true) true fuel 23 cs.toList = some x) : ∃ p, cs = cfgA p := by
  obtain ⟨hl, n, hf⟩ := field_trod f23 h
  rw [cl23] at hl
  obtain ⟨y0, h0⟩ := hf 0 3 0 rfl
  obtain ⟨y1, h1⟩ := hf 1 3 1 rfl
  obtain ⟨y2, h2⟩ := hf 2 3 2 rfl
  obtain ⟨y3, h3⟩ := hf 3 3 3 rfl
  obtain ⟨y4, h4⟩ := hf 4 3 4 rfl
  obtain ⟨y5, h5⟩ := hf 5 3 5 rfl
  obtain ⟨n0, e0⟩ := int_field h0
  obtain ⟨n1, e1⟩ := int_field h1
  obtain ⟨n2, e2⟩ := int_field h2
  obtain ⟨n3, e3⟩ := int_field h3
  obtain ⟨n4, e4⟩ := int_field h4
  obtain ⟨n5, e5⟩ := int_field h5
  refine ⟨⟨n0, n1, n2, n3, n4, n5⟩, ?_⟩
  apply Array.ext_getElem?
  intro i
  rw [← Array.getElem?_toList]
  by_cases hi : i < 6
  · have : i = 0 ∨ i = 1 ∨ i = 2 ∨ i = 3 ∨ i = 4 ∨ i = 5 := by omega
    rcases this with rfl | rfl | rfl | rfl | rfl | rfl
    · exact e0
    · exact e1
    · exact e2
    · exact e3
    · exact e4
    · exact e5
  · rw [List.getElem?_eq_none (by omega), Array.getElem?_eq_none (by simp [cfgA]; omega)]

set_option maxRecDepth 100000 in
theorem shelfNewMatchesSpec_lifted (os : Os) (started : os.Started) (H : Type) (enc : TypeId × Value → H) :
    ReturnsInHanded {} Try.checked os 3 .any (Rows.shelfNewMatchesSpecSpec.pre6 enc Try.prog Try.f3 Rows.shelfNewMatchesSpecRow.domain false) (Rows.shelfNewMatchesSpecSpec.post enc Try.prog Try.f3 false true false false) := by
  refine returnsInHanded_of_change (C := Try.checked) own started (by kernel_rfl) Try.func3
    (ChangeSpec.witness6 (enc := enc) (C := Try.checked) false ⟨#[], #[.agg #[.int .i64 0, .int .i64 0, .int .i64 0, .int .i64 0, .int .i64 0, .int .i64 0], .agg #[.int .i64 0, .int .i64 0, .int .i64 0]], []⟩ 8 (by kernel_rfl) (by kernel_rfl) (by kernel_rfl) (by kernel_rfl)) ?_
  intro W base args ds gs before hval0 hW hcnd _
  have hval : ∀ (j : Nat) t v, Try.f3.params[j]? = some t → args[j]? = some v → Value.okWide Try.prog W .any base t v := hval0
  have hW' := hW
  obtain ⟨p, q, hA0, hV, rfl, hfz, hnd⟩ := hW
  have hA : DataW.TrodAll enc Try.prog W 0 (fun _ => true) true Try.f3.params.toList args.toList ds p := hA0
  rw [Try.params3] at hA hval
  obtain ⟨v0, vs0, d0, ds0, p0, q0, hargs, rfl, rfl, h0, r0⟩ := trodAll_cons hA
  obtain ⟨v1, vs1, d1, ds1, p1, q1, rfl, rfl, rfl, h1, r1⟩ := trodAll_cons r0
  obtain ⟨rfl, rfl, rfl⟩ := trodAll_nil r1
  obtain rfl : args = #[v0, v1] := by cases args; simp_all
  obtain ⟨rfl, rfl⟩ := trodVars_none hV
  obtain ⟨cs0, rfl, -⟩ := okWide_struct Try.underlying23 (hval 0 23 v0 rfl rfl)
  obtain ⟨c, rfl⟩ : ∃ c, cs0 = cfgA c := by obtain ⟨fuel, hf⟩ := h0; exact cfg_of_cells hf
  obtain ⟨cs1, rfl, -⟩ := okWide_struct Try.underlying25 (hval 1 25 v1 rfl rfl)
  obtain ⟨pl, rfl⟩ : ∃ p, cs1 = plcA p := by obtain ⟨fuel, hf⟩ := h1; exact plc_of_cells hf
  clear hA0 hval0
  have hwalk := shelfNew_walk c pl W 
  refine hwalk.mono fun e W' ⟨he, hb⟩ => ?_
  subst he
  exact ⟨_, rfl, law_post laidOut Try.underlying4 hW' rfl rfl (by kernel_rfl) ⟨rfl, rfl, rfl⟩ hb.below⟩

/-- The statement. -/
theorem shelfNewMatchesSpec_proved : Rows.ShelfNewMatchesSpecSaid :=
  OpenClaim.holds_of_wide 3 Try.f3 rfl rfl rfl rfl rfl rfl rfl ⟨rfl, rfl, rfl, rfl, rfl⟩ rfl rfl rfl rfl rfl (by kernel_rfl) Try.func3 (by kernel_rfl)
    (of_decide_eq_true (by kernel_rfl)) (by unfold Func.isWrapper; first | (rw [if_pos (by decide +kernel)]; kernel_rfl) | (rw [if_neg (by decide +kernel)]; exact ⟨rfl, rfl⟩))
    (fun os started H enc _ => shelfNewMatchesSpec_lifted os started H enc)
#print axioms shelfNewMatchesSpec_proved
end Go.Proofs.Ytmbkmfpnjpkakaa
