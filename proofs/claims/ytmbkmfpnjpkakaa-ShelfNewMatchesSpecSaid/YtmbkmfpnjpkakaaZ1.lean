/- The reference's Check. -/
import Derived.Test.YtmbkmfpnjpkakaaW2
namespace Go.Proofs.Ytmbkmfpnjpkakaa
open Go.RowKit Go.Im Go.Dsk0

theorem rin_calls (n lo hi : Int) (b : Bool) (w : World) (h : decide (lo ≤ n ∧ n ≤ hi) = b) : Calls Try.prog 99 #[.int .i64 n, .int .i64 lo, .int .i64 hi] w fun e w' => e = .returned (.bool b) ∧ w = w' := by
  by_cases h0 : lo ≤ n
  · have e1 : b = decide (n ≤ hi) := by rw [← h]; simp [h0]
    have E1 := Lib.hid e1; clear e1 h
    go_enter Try.func99, Try.ntmps99
    go_wp2
    go_ret
    exact ⟨congrArg (fun b => Ending.returned (Value.bool b)) E1.out.symm, rfl⟩
  · have e1 : b = false := by rw [← h]; simp [h0]
    have E1 := Lib.hid e1; clear e1 h
    go_enter Try.func99, Try.ntmps99
    go_wp2
    go_ret
    exact ⟨congrArg (fun b => Ending.returned (Value.bool b)) E1.out.symm, rfl⟩

set_option maxRecDepth 100000 in
set_option maxHeartbeats 1000000 in
theorem rcheck_no1 (c : Shf0.Cfg) (w : World) (h1 : decide (1 ≤ c.disks ∧ c.disks ≤ 64) = false) : Calls Try.prog 62 #[cfgV c] w fun e w' => e = .returned (.int .i64 1) ∧ Fr (fun _ => False) w w' := by
  obtain ⟨n0, n1, n2, n3, n4, n5⟩ := c
  unfold cfgV
  simp only at h1
  have H1 := Lib.hid h1; clear h1
  go_enter Try.func62, Try.ntmps62
  go_wp2_with fail
  refine (rin_calls n0 1 (64) false _ H1.out).mono ?_; rintro e w' ⟨rfl, rfl⟩
  go_wp2_with fail
  go_ret
  exact ⟨rfl, (Fr.refl _ _).alloc _⟩

set_option maxRecDepth 100000 in
set_option maxHeartbeats 1000000 in
theorem rcheck_no2 (c : Shf0.Cfg) (w : World) (h1 : decide (1 ≤ c.disks ∧ c.disks ≤ 64) = true) (h2 : decide (1 ≤ c.racks ∧ c.racks ≤ 8) = false) : Calls Try.prog 62 #[cfgV c] w fun e w' => e = .returned (.int .i64 1) ∧ Fr (fun _ => False) w w' := by
  obtain ⟨n0, n1, n2, n3, n4, n5⟩ := c
  unfold cfgV
  simp only at h1 h2
  have H1 := Lib.hid h1; clear h1
  have H2 := Lib.hid h2; clear h2
  go_enter Try.func62, Try.ntmps62
  go_wp2_with fail
  refine (rin_calls n0 1 (64) true _ H1.out).mono ?_; rintro e w' ⟨rfl, rfl⟩
  go_wp2_with fail
  refine (rin_calls n1 1 (8) false _ H2.out).mono ?_; rintro e w' ⟨rfl, rfl⟩
  go_wp2_with fail
  go_ret
  exact ⟨rfl, (Fr.refl _ _).alloc _⟩

set_option maxRecDepth 100000 in
set_option maxHeartbeats 1000000 in
theorem rcheck_no3 (c : Shf0.Cfg) (w : World) (h1 : decide (1 ≤ c.disks ∧ c.disks ≤ 64) = true) (h2 : decide (1 ≤ c.racks ∧ c.racks ≤ 8) = true) (h3 : decide (1 ≤ c.rows ∧ c.rows ≤ 4096) = false) : Calls Try.prog 62 #[cfgV c] w fun e w' => e = .returned (.int .i64 1) ∧ Fr (fun _ => False) w w' := by
  obtain ⟨n0, n1, n2, n3, n4, n5⟩ := c
  unfold cfgV
  simp only at h1 h2 h3
  have H1 := Lib.hid h1; clear h1
  have H2 := Lib.hid h2; clear h2
  have H3 := Lib.hid h3; clear h3
  go_enter Try.func62, Try.ntmps62
  go_wp2_with fail
  refine (rin_calls n0 1 (64) true _ H1.out).mono ?_; rintro e w' ⟨rfl, rfl⟩
  go_wp2_with fail
  refine (rin_calls n1 1 (8) true _ H2.out).mono ?_; rintro e w' ⟨rfl, rfl⟩
  go_wp2_with fail
  refine (rin_calls n2 1 (4096) false _ H3.out).mono ?_; rintro e w' ⟨rfl, rfl⟩
  go_wp2_with fail
  go_ret
  exact ⟨rfl, (Fr.refl _ _).alloc _⟩

set_option maxRecDepth 100000 in
set_option maxHeartbeats 1000000 in
theorem rcheck_no5 (c : Shf0.Cfg) (w : World) (h1 : decide (1 ≤ c.disks ∧ c.disks ≤ 64) = true) (h2 : decide (1 ≤ c.racks ∧ c.racks ≤ 8) = true) (h3 : decide (1 ≤ c.rows ∧ c.rows ≤ 4096) = true) (h5 : decide (1 ≤ c.log ∧ c.log ≤ 65536) = false) : Calls Try.prog 62 #[cfgV c] w fun e w' => e = .returned (.int .i64 1) ∧ Fr (fun _ => False) w w' := by
  obtain ⟨n0, n1, n2, n3, n4, n5⟩ := c
  unfold cfgV
  simp only at h1 h2 h3 h5
  have H1 := Lib.hid h1; clear h1
  have H2 := Lib.hid h2; clear h2
  have H3 := Lib.hid h3; clear h3
  have H5 := Lib.hid h5; clear h5
  go_enter Try.func62, Try.ntmps62
  go_wp2_with fail
  refine (rin_calls n0 1 (64) true _ H1.out).mono ?_; rintro e w' ⟨rfl, rfl⟩
  go_wp2_with fail
  refine (rin_calls n1 1 (8) true _ H2.out).mono ?_; rintro e w' ⟨rfl, rfl⟩
  go_wp2_with fail
  refine (rin_calls n2 1 (4096) true _ H3.out).mono ?_; rintro e w' ⟨rfl, rfl⟩
  go_wp2_with fail
  refine (rin_calls n4 1 (65536) false _ H5.out).mono ?_; rintro e w' ⟨rfl, rfl⟩
  go_wp2_with fail
  go_ret
  exact ⟨rfl, (Fr.refl _ _).alloc _⟩

set_option maxRecDepth 100000 in
set_option maxHeartbeats 1000000 in
theorem rcheck_no6 (c : Shf0.Cfg) (w : World) (h1 : decide (1 ≤ c.disks ∧ c.disks ≤ 64) = true) (h2 : decide (1 ≤ c.racks ∧ c.racks ≤ 8) = true) (h3 : decide (1 ≤ c.rows ∧ c.rows ≤ 4096) = true) (h5 : decide (1 ≤ c.log ∧ c.log ≤ 65536) = true) (h6 : decide (1 ≤ c.image ∧ c.image ≤ 65536) = false) : Calls Try.prog 62 #[cfgV c] w fun e w' => e = .returned (.int .i64 1) ∧ Fr (fun _ => False) w w' := by
  obtain ⟨n0, n1, n2, n3, n4, n5⟩ := c
  unfold cfgV
  simp only at h1 h2 h3 h5 h6
  have H1 := Lib.hid h1; clear h1
  have H2 := Lib.hid h2; clear h2
  have H3 := Lib.hid h3; clear h3
  have H5 := Lib.hid h5; clear h5
  have H6 := Lib.hid h6; clear h6
  go_enter Try.func62, Try.ntmps62
  go_wp2_with fail
  refine (rin_calls n0 1 (64) true _ H1.out).mono ?_; rintro e w' ⟨rfl, rfl⟩
  go_wp2_with fail
  refine (rin_calls n1 1 (8) true _ H2.out).mono ?_; rintro e w' ⟨rfl, rfl⟩
  go_wp2_with fail
  refine (rin_calls n2 1 (4096) true _ H3.out).mono ?_; rintro e w' ⟨rfl, rfl⟩
  go_wp2_with fail
  refine (rin_calls n4 1 (65536) true _ H5.out).mono ?_; rintro e w' ⟨rfl, rfl⟩
  go_wp2_with fail
  refine (rin_calls n5 1 (65536) false _ H6.out).mono ?_; rintro e w' ⟨rfl, rfl⟩
  go_wp2_with fail
  go_ret
  exact ⟨rfl, (Fr.refl _ _).alloc _⟩

set_option maxRecDepth 100000 in
set_option maxHeartbeats 1000000 in
theorem rcheck_no7 (c : Shf0.Cfg) (w : World) (h1 : decide (1 ≤ c.disks ∧ c.disks ≤ 64) = true) (h2 : decide (1 ≤ c.racks ∧ c.racks ≤ 8) = true) (h3 : decide (1 ≤ c.rows ∧ c.rows ≤ 4096) = true) (h5 : decide (1 ≤ c.log ∧ c.log ≤ 65536) = true) (h6 : decide (1 ≤ c.image ∧ c.image ≤ 65536) = true) (h7 : c.disks % c.racks ≠ 0) : Calls Try.prog 62 #[cfgV c] w fun e w' => e = .returned (.int .i64 1) ∧ Fr (fun _ => False) w w' := by
  obtain ⟨n0, n1, n2, n3, n4, n5⟩ := c
  unfold cfgV
  simp only at h1 h2 h3 h5 h6 h7
  have d0 : 1 ≤ n0 ∧ n0 ≤ 64 := of_decide_eq_true h1
  obtain ⟨d0, d1⟩ := d0
  have r0 : 1 ≤ n1 ∧ n1 ≤ 8 := of_decide_eq_true h2
  obtain ⟨r0, r1⟩ := r0
  have H1 := Lib.hid h1; clear h1
  have H2 := Lib.hid h2; clear h2
  have H3 := Lib.hid h3; clear h3
  have H5 := Lib.hid h5; clear h5
  have H6 := Lib.hid h6; clear h6
  have h8 : (n0 % n1 != 0) = true := by simp [h7]
  clear h7
  go_enter Try.func62, Try.ntmps62
  go_wp2_with fail
  refine (rin_calls n0 1 (64) true _ H1.out).mono ?_; rintro e w' ⟨rfl, rfl⟩
  go_wp2_with fail
  refine (rin_calls n1 1 (8) true _ H2.out).mono ?_; rintro e w' ⟨rfl, rfl⟩
  go_wp2_with fail
  refine (rin_calls n2 1 (4096) true _ H3.out).mono ?_; rintro e w' ⟨rfl, rfl⟩
  go_wp2_with fail
  refine (rin_calls n4 1 (65536) true _ H5.out).mono ?_; rintro e w' ⟨rfl, rfl⟩
  go_wp2_with fail
  refine (rin_calls n5 1 (65536) true _ H6.out).mono ?_; rintro e w' ⟨rfl, rfl⟩
  go_wp2_with fail
  go_ret
  exact ⟨rfl, (Fr.refl _ _).alloc _⟩

set_option maxRecDepth 100000 in
set_option maxHeartbeats 1000000 in
theorem rcheck_no4 (c : Shf0.Cfg) (w : World) (h1 : decide (1 ≤ c.disks ∧ c.disks ≤ 64) = true) (h2 : decide (1 ≤ c.racks ∧ c.racks ≤ 8) = true) (h3 : decide (1 ≤ c.rows ∧ c.rows ≤ 4096) = true) (h5 : decide (1 ≤ c.log ∧ c.log ≤ 65536) = true) (h6 : decide (1 ≤ c.image ∧ c.image ≤ 65536) = true) (h7 : c.disks % c.racks = 0) (h4 : decide (0 ≤ c.spare ∧ c.spare ≤ c.disks - 1) = false) : Calls Try.prog 62 #[cfgV c] w fun e w' => e = .returned (.int .i64 1) ∧ Fr (fun _ => False) w w' := by
  obtain ⟨n0, n1, n2, n3, n4, n5⟩ := c
  unfold cfgV
  simp only at h1 h2 h3 h5 h6 h7 h4
  have d0 : 1 ≤ n0 ∧ n0 ≤ 64 := of_decide_eq_true h1
  obtain ⟨d0, d1⟩ := d0
  have r0 : 1 ≤ n1 ∧ n1 ≤ 8 := of_decide_eq_true h2
  obtain ⟨r0, r1⟩ := r0
  have H1 := Lib.hid h1; clear h1
  have H2 := Lib.hid h2; clear h2
  have H3 := Lib.hid h3; clear h3
  have H5 := Lib.hid h5; clear h5
  have H6 := Lib.hid h6; clear h6
  have H4 := Lib.hid h4; clear h4
  have h8 : (n0 % n1 != 0) = false := by simp [h7]
  clear h7
  go_enter Try.func62, Try.ntmps62
  go_wp2_with fail
  refine (rin_calls n0 1 (64) true _ H1.out).mono ?_; rintro e w' ⟨rfl, rfl⟩
  go_wp2_with fail
  refine (rin_calls n1 1 (8) true _ H2.out).mono ?_; rintro e w' ⟨rfl, rfl⟩
  go_wp2_with fail
  refine (rin_calls n2 1 (4096) true _ H3.out).mono ?_; rintro e w' ⟨rfl, rfl⟩
  go_wp2_with fail
  refine (rin_calls n4 1 (65536) true _ H5.out).mono ?_; rintro e w' ⟨rfl, rfl⟩
  go_wp2_with fail
  refine (rin_calls n5 1 (65536) true _ H6.out).mono ?_; rintro e w' ⟨rfl, rfl⟩
  go_wp2_with fail
  refine (rin_calls n3 0 (n0 - 1) false _ H4.out).mono ?_; rintro e w' ⟨rfl, rfl⟩
  go_wp2_with fail
  go_ret
  exact ⟨rfl, (Fr.refl _ _).alloc _⟩

set_option maxRecDepth 100000 in
set_option maxHeartbeats 1000000 in
theorem rcheck_all (c : Shf0.Cfg) (w : World) (h1 : decide (1 ≤ c.disks ∧ c.disks ≤ 64) = true) (h2 : decide (1 ≤ c.racks ∧ c.racks ≤ 8) = true) (h3 : decide (1 ≤ c.rows ∧ c.rows ≤ 4096) = true) (h5 : decide (1 ≤ c.log ∧ c.log ≤ 65536) = true) (h6 : decide (1 ≤ c.image ∧ c.image ≤ 65536) = true) (h7 : c.disks % c.racks = 0) (h4 : decide (0 ≤ c.spare ∧ c.spare ≤ c.disks - 1) = true) : Calls Try.prog 62 #[cfgV c] w fun e w' => e = .returned (.int .i64 0) ∧ Fr (fun _ => False) w w' := by
  obtain ⟨n0, n1, n2, n3, n4, n5⟩ := c
  unfold cfgV
  simp only at h1 h2 h3 h5 h6 h7 h4
  have d0 : 1 ≤ n0 ∧ n0 ≤ 64 := of_decide_eq_true h1
  obtain ⟨d0, d1⟩ := d0
  have r0 : 1 ≤ n1 ∧ n1 ≤ 8 := of_decide_eq_true h2
  obtain ⟨r0, r1⟩ := r0
  have H1 := Lib.hid h1; clear h1
  have H2 := Lib.hid h2; clear h2
  have H3 := Lib.hid h3; clear h3
  have H5 := Lib.hid h5; clear h5
  have H6 := Lib.hid h6; clear h6
  have H4 := Lib.hid h4; clear h4
  have h8 : (n0 % n1 != 0) = false := by simp [h7]
  clear h7
  go_enter Try.func62, Try.ntmps62
  go_wp2_with fail
  refine (rin_calls n0 1 (64) true _ H1.out).mono ?_; rintro e w' ⟨rfl, rfl⟩
  go_wp2_with fail
  refine (rin_calls n1 1 (8) true _ H2.out).mono ?_; rintro e w' ⟨rfl, rfl⟩
  go_wp2_with fail
  refine (rin_calls n2 1 (4096) true _ H3.out).mono ?_; rintro e w' ⟨rfl, rfl⟩
  go_wp2_with fail
  refine (rin_calls n4 1 (65536) true _ H5.out).mono ?_; rintro e w' ⟨rfl, rfl⟩
  go_wp2_with fail
  refine (rin_calls n5 1 (65536) true _ H6.out).mono ?_; rintro e w' ⟨rfl, rfl⟩
  go_wp2_with fail
  refine (rin_calls n3 0 (n0 - 1) true _ H4.out).mono ?_; rintro e w' ⟨rfl, rfl⟩
  go_wp2_with fail
  go_ret
  exact ⟨rfl, (Fr.refl _ _).alloc _⟩

/-- Check. -/
theorem rcheck_calls (c : Shf0.Cfg) (w : World) : Calls Try.prog 62 #[cfgV c] w fun e w' => e = .returned (.int .i64 (if Shf0.valid c then 0 else 1)) ∧ Fr (fun _ => False) w w' := by
  by_cases h1 : 1 ≤ c.disks ∧ c.disks ≤ 64
  · by_cases h2 : 1 ≤ c.racks ∧ c.racks ≤ 8
    · by_cases h3 : 1 ≤ c.rows ∧ c.rows ≤ 4096
      · by_cases h5 : 1 ≤ c.log ∧ c.log ≤ 65536
        · by_cases h6 : 1 ≤ c.image ∧ c.image ≤ 65536
          · by_cases h7 : c.disks % c.racks = 0
            · by_cases h4 : 0 ≤ c.spare ∧ c.spare ≤ c.disks - 1
              · rw [if_pos ⟨h1, h2, h3, h4, h5, h6, h7⟩]
                exact rcheck_all c w (decide_eq_true h1) (decide_eq_true h2) (decide_eq_true h3) (decide_eq_true h5) (decide_eq_true h6) h7 (decide_eq_true h4)
              · rw [if_neg (fun h => h4 h.2.2.2.1)]
                exact rcheck_no4 c w (decide_eq_true h1) (decide_eq_true h2) (decide_eq_true h3) (decide_eq_true h5) (decide_eq_true h6) h7 (decide_eq_false h4)
            · rw [if_neg (fun h => h7 h.2.2.2.2.2.2)]
              exact rcheck_no7 c w (decide_eq_true h1) (decide_eq_true h2) (decide_eq_true h3) (decide_eq_true h5) (decide_eq_true h6) h7
          · rw [if_neg (fun h => h6 h.2.2.2.2.2.1)]
            exact rcheck_no6 c w (decide_eq_true h1) (decide_eq_true h2) (decide_eq_true h3) (decide_eq_true h5) (decide_eq_false h6)
        · rw [if_neg (fun h => h5 h.2.2.2.2.1)]
          exact rcheck_no5 c w (decide_eq_true h1) (decide_eq_true h2) (decide_eq_true h3) (decide_eq_false h5)
      · rw [if_neg (fun h => h3 h.2.2.1)]
        exact rcheck_no3 c w (decide_eq_true h1) (decide_eq_true h2) (decide_eq_false h3)
    · rw [if_neg (fun h => h2 h.2.1)]
      exact rcheck_no2 c w (decide_eq_true h1) (decide_eq_false h2)
  · rw [if_neg (fun h => h1 h.1)]
    exact rcheck_no1 c w (decide_eq_false h1)
end Go.Proofs.Ytmbkmfpnjpkakaa

