/- The disk laws' examples: sanity answers true. -/
import Derived.Test.YtmbkmfpnjpkakaaL0
namespace Go.Proofs.Ytmbkmfpnjpkakaa
open Go.RowKit Go.Im Go.Dsk0

def s0 : Dsk := new 2
def s1 : Dsk := (write s0 0 (rp 97)).2
def s2 : Dsk := flush s1
def s3 : Dsk := (write s2 0 (rp 98)).2
def s4 : Dsk := cut s3 [3]
def s5 : Dsk := (lose s4 1).2
def s6 : Dsk := (write s5 1 (rp 98)).2
def s7 : Dsk := (misdirect s6 0 1).2
def s8 : Dsk := (write s7 0 (rp 98)).2

theorem e1 : (write s0 0 (rp 97)).1 = 0 := by kernel_rfl
theorem e2 : Dsk0.read s1 0 = (rp 97, 0) := by kernel_rfl
theorem e3 : pendI s1 = [0] := by kernel_rfl
theorem e4 : (write s2 0 (rp 98)).1 = 0 := by kernel_rfl
theorem e5 : Dsk0.read s4 0 = ([98, 98, 98] ++ (rp 97).drop 3, 0) := by kernel_rfl
theorem e6 : (lose s4 1).1 = 0 := by kernel_rfl
theorem e7 : (write s5 1 (rp 98)).1 = 0 := by kernel_rfl
theorem e8 : Dsk0.read s6 1 = (rp 0, 0) := by kernel_rfl
theorem e9 : (misdirect s6 0 1).1 = 0 := by kernel_rfl
theorem e10 : (write s7 0 (rp 98)).1 = 0 := by kernel_rfl
theorem e11 : Dsk0.read s8 1 = (rp 98, 0) := by kernel_rfl
theorem e12 : (rot s8 1 512).1 = 1 := by kernel_rfl
theorem e13 : (new 2).length = 2 := by kernel_rfl

/-- Three bytes of the one and 61 of the other. -/
def tmix : ByteArray := ⟨([98, 98, 98] ++ (rp 97).drop 3).toArray⟩
theorem tmix_eq : (⟨([98, 98, 98] ++ (rp 97).drop 3).toArray⟩ : ByteArray) = tmix := rfl

set_option maxRecDepth 100000 in
set_option maxHeartbeats 2000000 in
theorem sanity_calls (w : World) : Calls Try.prog 23 #[] w fun e w' => e = .returned (.bool true) ∧ Fr (fun _ => False) w w' := by
  go_enter Try.func23, Try.ntmps23
  go_wp2_with fail
  refine (new_calls 2 w).mono ?_; rintro e w1 ⟨g, bd, bc, ba, rfl, d0, f1, hbd, hbc, hba, hg⟩
  have D0 := Lib.hid (show DiskAt w1 g bd bc ba s0 from d0)
  obtain ⟨av, cap, c0, -, -, -, -, -⟩ := d0.open_
  clear d0
  rw [e13] at c0
  go_wp2_with fail
  refine (len_any g _ _ _ w1 c0).mono ?_; rintro e w' ⟨rfl, rfl⟩
  clear c0
  go_wp2_with fail
  refine (rep_calls 97 w1).mono ?_; rintro e w2 ⟨rfl, f2⟩
  go_wp2_with fail
  refine (rep_calls 98 w2).mono ?_; rintro e w3 ⟨rfl, f3⟩
  have D3 := Lib.hid ((D0.out.fr f2 (fun h => h) (fun _ h => h) (fun h => h) (fun h => h)).fr f3 (fun h => h) (fun _ h => h) (fun h => h) (fun h => h))
  go_wp2_with fail
  refine (write_calls g bd bc ba s0 0 (rps 97) w3 D3.out).mono ?_; rintro e w4 ⟨rfl, d4, f4⟩
  have D4 := Lib.hid (show DiskAt w4 g bd bc ba s1 from d4); clear d4
  rw [show (write s0 0 (rps 97).data.toList).1 = 0 from e1]
  go_wp2_with fail
  refine (read_calls g bd bc ba s1 0 w4 D4.out).mono ?_; rintro e w5 ⟨rfl, f5⟩
  have D5 := Lib.hid (D4.out.fr f5 (fun h => h) (fun _ h => h) (fun h => h) (fun h => h))
  rw [e2]; change _ ; rw [show (⟨(rp 97).toArray⟩ : ByteArray) = rps 97 from rfl]
  go_wp2_with fail
  refine (pending_calls g bd bc ba s1 w5 D5.out).mono ?_; rintro e w6 ⟨pv, rfl, prow, f6⟩
  have D6 := Lib.hid (D5.out.fr f6 (fun h => h) (fun _ h => h) (fun h => h) (fun h => h))
  have PI := Lib.hid (IntsAt.of_row (ok := fun b => ¬ foot bd bc ba b) prow (fun b h _ => D5.out.lts (by decide) b h) (by rw [e3]; decide)); clear prow
  go_wp2_with fail
  refine (flush_calls g bd bc ba s1 w6 D6.out).mono ?_; rintro e w7 ⟨rfl, d7, f7⟩
  have D7 := Lib.hid (show DiskAt w7 g bd bc ba s2 from d7); clear d7
  go_wp2_with fail
  refine (write_calls g bd bc ba s2 0 (rps 98) w7 D7.out).mono ?_; rintro e w8 ⟨rfl, d8, f8⟩
  have D8 := Lib.hid (show DiskAt w8 g bd bc ba s3 from d8); clear d8
  rw [show (write s2 0 (rps 98).data.toList).1 = 0 from e4]
  go_wp2_with fail
  have DA := Lib.hid (D8.out.fr ((Fr.refl (fun _ => False) w8).alloc (.cells #[.int .i64 3] 3)) (fun h => h) (fun _ h => h) (fun h => h) (fun h => h))
  have PA := Lib.hid (IntsAt.one w8 3 (fun b => ¬ foot bd bc ba b) (D8.out.lts (by decide) _ (Nat.le_refl _)))
  refine (cut_calls g bd bc ba s3 _ DA.out _ [3] PA.out).mono ?_; rintro e w9 ⟨rfl, d9, f9⟩
  have D9 := Lib.hid (show DiskAt w9 g bd bc ba s4 from d9); clear d9
  go_wp2_with fail
  refine (read_calls g bd bc ba s4 0 w9 D9.out).mono ?_; rintro e w10 ⟨rfl, f10⟩
  have D10 := Lib.hid (D9.out.fr f10 (fun h => h) (fun _ h => h) (fun h => h) (fun h => h))
  rw [e5]; change _ ; rw [tmix_eq]
  go_wp2_with fail
  refine (lose_calls g bd bc ba s4 1 w10 D10.out).mono ?_; rintro e w11 ⟨rfl, d11, f11⟩
  have D11 := Lib.hid (show DiskAt w11 g bd bc ba s5 from d11); clear d11
  rw [e6]
  go_wp2_with fail
  refine (write_calls g bd bc ba s5 1 (rps 98) w11 D11.out).mono ?_; rintro e w12 ⟨rfl, d12, f12⟩
  have D12 := Lib.hid (show DiskAt w12 g bd bc ba s6 from d12); clear d12
  rw [show (write s5 1 (rps 98).data.toList).1 = 0 from e7]
  go_wp2_with fail
  refine (read_calls g bd bc ba s6 1 w12 D12.out).mono ?_; rintro e w13 ⟨rfl, f13⟩
  have D13 := Lib.hid (D12.out.fr f13 (fun h => h) (fun _ h => h) (fun h => h) (fun h => h))
  rw [e8]; change _ ; rw [show (⟨(rp 0).toArray⟩ : ByteArray) = rps 0 from rfl]
  go_wp2_with fail
  refine (misdirect_calls g bd bc ba s6 0 1 w13 D13.out).mono ?_; rintro e w14 ⟨rfl, d14, f14⟩
  have D14 := Lib.hid (show DiskAt w14 g bd bc ba s7 from d14); clear d14
  rw [e9]
  go_wp2_with fail
  refine (write_calls g bd bc ba s7 0 (rps 98) w14 D14.out).mono ?_; rintro e w15 ⟨rfl, d15, f15⟩
  have D15 := Lib.hid (show DiskAt w15 g bd bc ba s8 from d15); clear d15
  rw [show (write s7 0 (rps 98).data.toList).1 = 0 from e10]
  go_wp2_with fail
  refine (read_calls g bd bc ba s8 1 w15 D15.out).mono ?_; rintro e w16 ⟨rfl, f16⟩
  have D16 := Lib.hid (D15.out.fr f16 (fun h => h) (fun _ h => h) (fun h => h) (fun h => h))
  rw [e11]; change _ ; rw [show (⟨(rp 98).toArray⟩ : ByteArray) = rps 98 from rfl]
  go_wp2_with fail
  refine (rot_calls g bd bc ba s8 1 512 w16 D16.out).mono ?_; rintro e w17 ⟨rfl, d17, f17⟩
  clear d17
  rw [e12]
  go_wp2_with fail
  have FA : Fr (foot bd bc ba) w6 w17 := (((((((((f7.trans f8).alloc _).trans f9).trans (f10.mono (fun _ _ h => h.elim))).trans f11).trans f12).trans (f13.mono (fun _ _ h => h.elim))).trans f14).trans f15).trans ((f16.mono (fun _ _ h => h.elim)).trans f17)
  have P17 := Lib.hid (PI.out.fr (FA.alloc (.cells #[.int .i64 0] 3)) (fun _ _ h => h))
  have Q17 := Lib.hid (IntsAt.one w17 0 (fun _ => True) trivial)
  refine (same_calls _ _ _ _ _ P17.out Q17.out).mono ?_; rintro e w18 ⟨rfl, f18⟩
  rw [e3]
  go_wp2_with fail
  refine (rep_calls 0 w18).mono ?_; rintro e w19 ⟨rfl, f19⟩
  go_wp2_with fail
  go_ret
  refine ⟨rfl, ?_⟩
  have E1 : Fr (foot bd bc ba) w w4 := (((f1.trans f2).trans f3).mono (fun _ _ h => h.elim)).trans f4
  have E2 : Fr (foot bd bc ba) w w6 := E1.trans ((f5.trans f6).mono (fun _ _ h => h.elim))
  have E3 : Fr (foot bd bc ba) w w19 := ((E2.trans FA).alloc _).trans ((f18.trans f19).mono (fun _ _ h => h.elim))
  exact E3.mono (fun k hk h => by unfold foot at h; omega)

end Go.Proofs.Ytmbkmfpnjpkakaa
