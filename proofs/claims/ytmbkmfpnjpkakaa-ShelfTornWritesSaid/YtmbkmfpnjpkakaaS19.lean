/- The shelf laws' helpers: the reference's sectors and Small. -/
import Derived.Test.YtmbkmfpnjpkakaaS18
namespace Go.Proofs.Ytmbkmfpnjpkakaa
open Go.RowKit Go.Im Go.Dsk0

/-- Some integer is answered. -/
def SomeZ (w : World) (e : Ending) (w' : World) : Prop := ∃ n : Int, e = .returned (.int .i64 n) ∧ Fr (fun _ => False) w w'
def SomeB (w : World) (e : Ending) (w' : World) : Prop := ∃ b : Bool, e = .returned (.bool b) ∧ Fr (fun _ => False) w w'

theorem rsectors_any (c : Shf0.Cfg) (w : World) : Calls Try.prog 59 #[cfgV c] w fun e w' => SomeZ w e w' := by
  obtain ⟨n0, n1, n2, n3, n4, n5⟩ := c
  unfold cfgV
  simp only
  go_enter Try.func59, Try.ntmps59
  go_wp2_with (first
    | (refine im_box rfl 23 _ rfl rfl ?_; intro w1 b1 f1 z1; have Z1 := Lib.hid z1; clear z1; obtain ⟨p0, p1, p2, p3, p4, p5⟩ := cfgA_cells (c := ⟨n0, n1, n2, n3, n4, n5⟩) b1; have hl1 := lt_of_blk b1; clear b1))
  go_ret
  exact ⟨_, rfl, f1⟩
theorem rsectors_calls (c : Shf0.Cfg) (w : World) (hv : Shf0.valid c) : Calls Try.prog 59 #[cfgV c] w fun e w' => e = .returned (.int .i64 (Shf0.sectors c)) ∧ Fr (fun _ => False) w w' := by
  obtain ⟨-, -, h3, h4, h5, h6, h7, h8⟩ := valid_bd hv
  have hs : Shf0.sectors c = c.log + 2 * c.image + c.rows := by unfold Shf0.sectors; omega
  rw [hs]
  clear hs hv
  obtain ⟨n0, n1, n2, n3, n4, n5⟩ := c
  simp only at h3 h4 h5 h6 h7 h8 ⊢
  unfold cfgV
  simp only
  go_enter Try.func59, Try.ntmps59
  go_wp2_with (first
    | (refine im_box rfl 23 _ rfl rfl ?_; intro w1 b1 f1 z1; have Z1 := Lib.hid z1; clear z1; obtain ⟨p0, p1, p2, p3, p4, p5⟩ := cfgA_cells (c := ⟨n0, n1, n2, n3, n4, n5⟩) b1; have hl1 := lt_of_blk b1; clear b1))
  go_ret
  exact ⟨rfl, f1⟩

def lowC (c : Shf0.Cfg) : Prop := c.disks ≤ 6 ∧ c.log ≤ 24 ∧ c.image ≤ 24 ∧ c.rows ≤ 24

set_option maxHeartbeats 1000000 in
theorem small_no (c : Shf0.Cfg) (w : World) (h : ¬ lowC c) : Calls Try.prog 16 #[cfgV c] w fun e w' => e = .returned (.bool false) ∧ Fr (fun _ => False) w w' := by
  obtain ⟨n0, n1, n2, n3, n4, n5⟩ := c
  unfold lowC at h
  simp only at h
  have H := Lib.hid h; clear h
  unfold cfgV
  simp only
  by_cases h0 : n0 ≤ 6
  · by_cases h1 : n4 ≤ 24
    · by_cases h2 : n5 ≤ 24
      · have h3 : ¬ n2 ≤ 24 := fun h => H.out ⟨h0, h1, h2, h⟩
        go_enter Try.func16, Try.ntmps16
        go_wp2_with (first
          | (refine im_box rfl 23 _ rfl rfl ?_; intro w1 b1 f1 z1; have Z1 := Lib.hid z1; clear z1; obtain ⟨p0, p1, p2, p3, p4, p5⟩ := cfgA_cells (c := ⟨n0, n1, n2, n3, n4, n5⟩) b1; have hl1 := lt_of_blk b1; clear b1))
        go_ret
        exact ⟨rfl, f1⟩
      · go_enter Try.func16, Try.ntmps16
        go_wp2_with (first
          | (refine im_box rfl 23 _ rfl rfl ?_; intro w1 b1 f1 z1; have Z1 := Lib.hid z1; clear z1; obtain ⟨p0, p1, p2, p3, p4, p5⟩ := cfgA_cells (c := ⟨n0, n1, n2, n3, n4, n5⟩) b1; have hl1 := lt_of_blk b1; clear b1))
        go_ret
        exact ⟨rfl, f1⟩
    · go_enter Try.func16, Try.ntmps16
      go_wp2_with (first
        | (refine im_box rfl 23 _ rfl rfl ?_; intro w1 b1 f1 z1; have Z1 := Lib.hid z1; clear z1; obtain ⟨p0, p1, p2, p3, p4, p5⟩ := cfgA_cells (c := ⟨n0, n1, n2, n3, n4, n5⟩) b1; have hl1 := lt_of_blk b1; clear b1))
      go_ret
      exact ⟨rfl, f1⟩
  · go_enter Try.func16, Try.ntmps16
    go_wp2_with (first
      | (refine im_box rfl 23 _ rfl rfl ?_; intro w1 b1 f1 z1; have Z1 := Lib.hid z1; clear z1; obtain ⟨p0, p1, p2, p3, p4, p5⟩ := cfgA_cells (c := ⟨n0, n1, n2, n3, n4, n5⟩) b1; have hl1 := lt_of_blk b1; clear b1))
    go_ret
    exact ⟨rfl, f1⟩

set_option maxHeartbeats 1000000 in
theorem small_by (c : Shf0.Cfg) (w : World) (h : lowC c) (n : Int) (hn : ∀ W, Fr (fun _ => False) w W → Calls Try.prog 59 #[cfgV c] W fun e w' => e = .returned (.int .i64 n) ∧ Fr (fun _ => False) W w') : Calls Try.prog 16 #[cfgV c] w fun e w' => e = .returned (.bool (decide (n ≤ 24))) ∧ Fr (fun _ => False) w w' := by
  obtain ⟨n0, n1, n2, n3, n4, n5⟩ := c
  obtain ⟨h0, h1, h2, h3⟩ := h
  simp only at h0 h1 h2 h3
  have HN := Lib.hid hn; clear hn
  unfold cfgV at HN ⊢
  simp only at HN ⊢
  go_enter Try.func16, Try.ntmps16
  go_wp2_with (first
    | (refine im_box rfl 23 _ rfl rfl ?_; intro w1 b1 f1 z1; have Z1 := Lib.hid z1; clear z1; obtain ⟨p0, p1, p2, p3, p4, p5⟩ := cfgA_cells (c := ⟨n0, n1, n2, n3, n4, n5⟩) b1; have hl1 := lt_of_blk b1; clear b1))
  refine (HN.out w1 f1).mono ?_; rintro e w2 ⟨rfl, f2⟩
  go_wp2_with fail
  go_ret
  exact ⟨rfl, f1.trans f2⟩

/-- Small, of a valid configuration; of any. -/
theorem small_calls (c : Shf0.Cfg) (w : World) (hv : Shf0.valid c) : Calls Try.prog 16 #[cfgV c] w fun e w' => e = .returned (.bool (Shf0.small c)) ∧ Fr (fun _ => False) w w' := by
  by_cases h : lowC c
  · have : Shf0.small c = decide (Shf0.sectors c ≤ 24) := by
      obtain ⟨h0, h1, h2, h3⟩ := h
      unfold Shf0.small; simp [h0, h1, h2, h3]
    rw [this]
    exact small_by c w h _ fun W _ => rsectors_calls c W hv
  · have : Shf0.small c = false := by
      unfold Shf0.small
      exact decide_eq_false fun h' => h ⟨h'.1, h'.2.1, h'.2.2.1, h'.2.2.2.1⟩
    rw [this]
    exact small_no c w h

set_option maxHeartbeats 1000000 in
theorem small_some (c : Shf0.Cfg) (w : World) : Calls Try.prog 16 #[cfgV c] w fun e w' => SomeB w e w' := by
  by_cases h : lowC c
  · have hn := fun W => rsectors_any c W
    obtain ⟨n0, n1, n2, n3, n4, n5⟩ := c
    obtain ⟨h0, h1, h2, h3⟩ := h
    simp only at h0 h1 h2 h3
    have HN := Lib.hid hn; clear hn
    unfold cfgV at HN ⊢
    simp only at HN ⊢
    go_enter Try.func16, Try.ntmps16
    go_wp2_with (first
      | (refine im_box rfl 23 _ rfl rfl ?_; intro w1 b1 f1 z1; have Z1 := Lib.hid z1; clear z1; obtain ⟨p0, p1, p2, p3, p4, p5⟩ := cfgA_cells (c := ⟨n0, n1, n2, n3, n4, n5⟩) b1; have hl1 := lt_of_blk b1; clear b1))
    refine (HN.out w1).mono ?_; rintro e w2 ⟨n, rfl, f2⟩
    go_wp2_with fail
    go_ret
    exact ⟨_, rfl, f1.trans f2⟩
  · exact (small_no c w h).mono fun e w' ⟨he, hf⟩ => ⟨false, he, hf⟩

/-- What built answers without a script. -/
def Built0 (c : Shf0.Cfg) (w : World) (e : Ending) (w' : World) : Prop :=
  (¬ (Shf0.valid c ∧ Shf0.small c = true) ∧ e = .returned (.tuple #[.pointer none, .bool false]) ∧ Fr (fun _ => False) w w') ∨
  (Shf0.valid c ∧ Shf0.small c = true ∧ ∃ s : Nat, e = .returned (.tuple #[.pointer (some ⟨s, 0, none⟩), .bool true]) ∧ ShelfAt w' (fun q => w.heap.size ≤ q ∧ q < w'.heap.size) s (Shf0.newS c) ∧ Fr (fun _ => False) w w')

theorem small_sec {c : Shf0.Cfg} (h : Shf0.small c = true) : Shf0.sectors c ≤ 65536 := by
  unfold Shf0.small at h
  have := (of_decide_eq_true h).2.2.2.2
  omega

set_option maxRecDepth 100000 in
set_option maxHeartbeats 1000000 in
theorem built0_calls (c : Shf0.Cfg) (w : World) : Calls Try.prog 45 #[cfgV c, .slice none 0 0] w fun e w' => Built0 c w e w' := by
  by_cases hv : Shf0.valid c
  · cases hsm : Shf0.small c with
    | false =>
      have hs := fun W => small_calls c W hv
      rw [hsm] at hs
      have hno : ¬ (Shf0.valid c ∧ Shf0.small c = true) := fun h => by rw [hsm] at h; exact absurd h.2 (by simp)
      have HNO := Lib.hid hno
      have HS := Lib.hid hs
      clear hs hno hsm hv
      have hc : ∃ A, A = cfgV c := ⟨_, rfl⟩
      unfold cfgV at HS ⊢
      clear hc
      go_enter Try.func45, Try.ntmps45
      go_wp2_with (first
        | (refine im_box rfl 23 _ rfl rfl ?_; intro w1 b1 f1 z1; have Z1 := Lib.hid z1; clear z1; obtain ⟨p0, p1, p2, p3, p4, p5⟩ := cfgA_cells (c := c) b1; have hl1 := lt_of_blk b1; clear b1))
      refine (HS.out w1).mono ?_; rintro e w2 ⟨rfl, f2⟩
      go_wp2_with fail
      go_ret2
      exact .inl ⟨HNO.out, rfl, f1.trans f2⟩
    | true =>
      have hs := fun W => small_calls c W hv
      rw [hsm] at hs
      have hnw := fun W => snew_ok c W hv (small_sec hsm)
      have HV := Lib.hid (And.intro hv hsm)
      have HS := Lib.hid hs
      have HNW := Lib.hid hnw
      clear hs hnw hsm hv
      unfold cfgV at HS HNW ⊢
      go_enter Try.func45, Try.ntmps45
      go_wp2_with (first
        | (refine im_box rfl 23 _ rfl rfl ?_; intro w1 b1 f1 z1; have Z1 := Lib.hid z1; clear z1; obtain ⟨p0, p1, p2, p3, p4, p5⟩ := cfgA_cells (c := c) b1; have hl1 := lt_of_blk b1; clear b1))
      refine (HS.out w1).mono ?_; rintro e w2 ⟨rfl, f2⟩
      have q0 := (f2.cb hl1 (fun h => h)).trans p0
      have q1 := (f2.cb hl1 (fun h => h)).trans p1
      have q2 := (f2.cb hl1 (fun h => h)).trans p2
      have q3 := (f2.cb hl1 (fun h => h)).trans p3
      have q4 := (f2.cb hl1 (fun h => h)).trans p4
      have q5 := (f2.cb hl1 (fun h => h)).trans p5
      clear p0 p1 p2 p3 p4 p5
      go_wp2_with fail
      refine (HNW.out w2).mono ?_; rintro e w3 ⟨s, rfl, h3, f3⟩
      have f12 := f1.trans f2
      have hsz := f12.size
      have H3 := Lib.hid (h3.mono (O' := fun q => w.heap.size ≤ q ∧ q < w3.heap.size) (fun q hq => ⟨by omega, hq.2⟩) (fun q hq => hq.2)); clear h3
      have F3 := Lib.hid (f12.trans f3)
      clear f3 f12 f2 f1
      go_wp2_with fail
      go_loopg [8] 0 (fun m t wr => t = .int .i64 0 ∧ w3 = wr)
      case atStart => exact ⟨rfl, rfl⟩
      case round =>
        obtain ⟨rfl, rfl⟩ := hrel
        go_wp2_with fail
        go_ret2
        exact .inr ⟨HV.out.1, HV.out.2, s, rfl, H3.out, F3.out⟩
  · have hs := fun W => small_some c W
    have hnw := fun W => snew_bad c W hv
    have hno : ¬ (Shf0.valid c ∧ Shf0.small c = true) := fun h => hv h.1
    have HNO := Lib.hid hno
    have HS := Lib.hid hs
    have HNW := Lib.hid hnw
    clear hs hnw hno hv
    unfold cfgV at HS HNW ⊢
    go_enter Try.func45, Try.ntmps45
    go_wp2_with (first
      | (refine im_box rfl 23 _ rfl rfl ?_; intro w1 b1 f1 z1; have Z1 := Lib.hid z1; clear z1; obtain ⟨p0, p1, p2, p3, p4, p5⟩ := cfgA_cells (c := c) b1; have hl1 := lt_of_blk b1; clear b1))
    refine (HS.out w1).mono ?_; rintro e w2 ⟨b, rfl, f2⟩
    have q0 := (f2.cb hl1 (fun h => h)).trans p0
    have q1 := (f2.cb hl1 (fun h => h)).trans p1
    have q2 := (f2.cb hl1 (fun h => h)).trans p2
    have q3 := (f2.cb hl1 (fun h => h)).trans p3
    have q4 := (f2.cb hl1 (fun h => h)).trans p4
    have q5 := (f2.cb hl1 (fun h => h)).trans p5
    clear p0 p1 p2 p3 p4 p5
    cases b
    · go_wp2_with fail
      go_ret2
      exact .inl ⟨HNO.out, rfl, f1.trans f2⟩
    · go_wp2_with fail
      refine (HNW.out w2).mono ?_; rintro e w3 ⟨rfl, f3⟩
      go_wp2_with fail
      go_ret2
      exact .inl ⟨HNO.out, rfl, (f1.trans f2).trans f3⟩
end Go.Proofs.Ytmbkmfpnjpkakaa
