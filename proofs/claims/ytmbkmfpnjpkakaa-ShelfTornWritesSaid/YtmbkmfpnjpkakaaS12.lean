/- The program's shelf: Rot, Lose, Misdirect. -/
import Derived.Test.YtmbkmfpnjpkakaaS11
namespace Go.Proofs.Ytmbkmfpnjpkakaa
open Go.RowKit Go.Im Go.Dsk0

theorem rot1_calls (L : Loc) (D : Dsk) (t n : Int) (m : Int) (mb : Nat) (w : World) (h : DK w L D) (hm : w.cell? ⟨mb, 0, none⟩ = some (.int .i64 m)) :
    Calls Try.prog 122 #[.agg #[L.ptr, .int .i64 t], .int .i64 n, .pointer (some ⟨mb, 0, none⟩)] w fun e w' => e = .returned (.int .i64 (Dsk0.rot D n m).1) ∧ DiskAt w' L.g L.bd L.bc L.ba (Dsk0.rot D n m).2 ∧ Fr L.foot w w' := by
  have H := Lib.hid h; clear h
  have hml : mb < w.heap.size := World.block_lt_of_cell? w ⟨mb, 0, none⟩ hm
  unfold Loc.ptr
  go_enter Try.func122, Try.ntmps122
  go_wp2_with (first
    | (refine im_box rfl 106 _ rfl rfl ?_; intro w1 b1 f1 z1; have q0 : w1.cell? ⟨w.heap.size, 0, none⟩ = some (.pointer (some ⟨L.g, 0, none⟩)) := cell_of_blk b1; have q1 := (f1.cb hml (fun h => h)).trans hm; clear b1 z1))
  refine (rot_calls L.g L.bd L.bc L.ba D n m w1 (H.out.keep f1).disk).mono ?_; rintro e w2 ⟨rfl, d2, f2⟩
  have D2 := Lib.hid d2; clear d2
  go_wp2_with fail
  go_ret
  exact ⟨rfl, D2.out, f1.no.trans f2⟩

theorem lose1_calls (L : Loc) (D : Dsk) (t n : Int) (w : World) (h : DK w L D) :
    Calls Try.prog 123 #[.agg #[L.ptr, .int .i64 t], .int .i64 n] w fun e w' => e = .returned (.int .i64 (Dsk0.lose D n).1) ∧ DiskAt w' L.g L.bd L.bc L.ba (Dsk0.lose D n).2 ∧ Fr L.foot w w' := by
  have H := Lib.hid h; clear h
  skip
  unfold Loc.ptr
  go_enter Try.func123, Try.ntmps123
  go_wp2_with (first
    | (refine im_box rfl 106 _ rfl rfl ?_; intro w1 b1 f1 z1; have q0 : w1.cell? ⟨w.heap.size, 0, none⟩ = some (.pointer (some ⟨L.g, 0, none⟩)) := cell_of_blk b1; clear b1 z1))
  refine (lose_calls L.g L.bd L.bc L.ba D n w1 (H.out.keep f1).disk).mono ?_; rintro e w2 ⟨rfl, d2, f2⟩
  have D2 := Lib.hid d2; clear d2
  go_wp2_with fail
  go_ret
  exact ⟨rfl, D2.out, f1.no.trans f2⟩

theorem misdirect1_calls (L : Loc) (D : Dsk) (t n : Int) (m : Int) (mb : Nat) (w : World) (h : DK w L D) (hm : w.cell? ⟨mb, 0, none⟩ = some (.int .i64 m)) :
    Calls Try.prog 124 #[.agg #[L.ptr, .int .i64 t], .int .i64 n, .pointer (some ⟨mb, 0, none⟩)] w fun e w' => e = .returned (.int .i64 (Dsk0.misdirect D n m).1) ∧ DiskAt w' L.g L.bd L.bc L.ba (Dsk0.misdirect D n m).2 ∧ Fr L.foot w w' := by
  have H := Lib.hid h; clear h
  have hml : mb < w.heap.size := World.block_lt_of_cell? w ⟨mb, 0, none⟩ hm
  unfold Loc.ptr
  go_enter Try.func124, Try.ntmps124
  go_wp2_with (first
    | (refine im_box rfl 106 _ rfl rfl ?_; intro w1 b1 f1 z1; have q0 : w1.cell? ⟨w.heap.size, 0, none⟩ = some (.pointer (some ⟨L.g, 0, none⟩)) := cell_of_blk b1; have q1 := (f1.cb hml (fun h => h)).trans hm; clear b1 z1))
  refine (misdirect_calls L.g L.bd L.bc L.ba D n m w1 (H.out.keep f1).disk).mono ?_; rintro e w2 ⟨rfl, d2, f2⟩
  have D2 := Lib.hid d2; clear d2
  go_wp2_with fail
  go_ret
  exact ⟨rfl, D2.out, f1.no.trans f2⟩

theorem rot_length (D : Dsk) (n b : Int) : (Dsk0.rot D n b).2.length = D.length := by
  unfold Dsk0.rot
  split <;> simp [rotC, rotD]
theorem lose_length (D : Dsk) (n : Int) : (Dsk0.lose D n).2.length = D.length := by
  unfold Dsk0.lose
  split <;> simp [Dsk0.arm]
theorem misdirect_length (D : Dsk) (n t : Int) : (Dsk0.misdirect D n t).2.length = D.length := by
  unfold Dsk0.misdirect
  split <;> simp [Dsk0.arm]

section
variable {w : World} {O : Nat → Prop} {s : Nat} {S : Shf0.Shelf}

/-- A disk turned behind arm. -/
theorem arm_turned {w : World} (F : Dsk → Int × Dsk) (hF : ∀ D, (F D).2.length = D.length) (p : Shf0.Place) {e : Ending} {w' : World} (w0 : World) (hf : Fr (fun _ => False) w0 w)
    (h : ArmPost w O s S p (fun L D r w1 w' => r = (F D).1 ∧ DiskAt w' L.g L.bd L.bc L.ba (F D).2 ∧ Fr L.foot w1 w') e w') :
    e = .returned (.int .i64 (F (Shf0.bayD S p.disk.toNat)).1) ∧ ShelfAt w' O s (Shf0.turnD S p.disk.toNat fun D => (F D).2) ∧ Fr O w0 w' := by
  obtain ⟨r, w1, bs, im, bv, iv, k, L, b, rfl, f1, hin, hdk, hx, rfl, hd, f2⟩ := h
  have hD := hin.kb _ (List.mem_of_getElem? hx)
  rw [hdk, Int.toNat_natCast, bayD_at hin hx]
  exact ⟨rfl, ⟨_, _, _, _, hin.turn (F := fun D => (F D).2) hx f2 (hD.turn hd (hF _) f2.size) (hF _)⟩, (hf.trans f1).no.trans (f2.mono fun q _ hq => foot_in hin hx q (.inr hq))⟩

set_option maxRecDepth 100000 in
set_option maxHeartbeats 1000000 in
theorem slose_calls (h : ShelfAt w O s S) (p : Shf0.Place) : Calls Try.prog 115 #[.pointer (some ⟨s, 0, none⟩), placeV p] w fun e w' => e = .returned (.int .i64 (Shf0.lose S p).1) ∧ ShelfAt w' O s (Shf0.lose S p).2 ∧ Fr O w w' := by
  have H := Lib.hid h; clear h
  obtain ⟨R, hR⟩ : ∃ R, R = Shf0.lose S p := ⟨_, rfl⟩
  have hR' : R = if Shf0.there S p ∧ true = true then (if Shf0.state S p.disk = 1 then ((Dsk0.lose (Shf0.bayD S p.disk.toNat) (Shf0.number S p)).1, Shf0.turnD S p.disk.toNat fun D => (Dsk0.lose D (Shf0.number S p)).2) else (15, S)) else (1, S) := by rw [hR]; rfl
  rw [← hR]
  clear hR
  have HR := Lib.hid hR'; clear hR'
  have hcl : ∀ w1, Fr (fun _ => False) w w1 → Calls Try.prog 63 #[.pointer (some ⟨s, 0, none⟩), placeV p, .bool true, .func (.func 123) #[] #[]] w1 fun e w' => e = .returned (.int .i64 R.1) ∧ ShelfAt w' O s R.2 ∧ Fr O w w' := fun w1 f1 => by
    by_cases ht : Shf0.there S p
    · by_cases hst : Shf0.state S p.disk = 1
      · have hRe := HR.out
        rw [if_pos ⟨ht, rfl⟩, if_pos hst] at hRe
        rw [hRe]
        exact (arm_lose (fun L D r w1 w' => r = (Dsk0.lose D (Shf0.number S p)).1 ∧ DiskAt w' L.g L.bd L.bc L.ba (Dsk0.lose D (Shf0.number S p)).2 ∧ Fr L.foot w1 w') (H.out.keep f1) p ht hst (fun L D t w3 hf hk => (lose1_calls L D t _ w3 hk).mono fun e w' ⟨he, h1, h2⟩ => ⟨_, he, rfl, h1, h2⟩)).mono fun e w' hp => arm_turned (fun D => Dsk0.lose D (Shf0.number S p)) (fun D => lose_length D _) p w f1 hp
      · have hRe := HR.out
        rw [if_pos ⟨ht, rfl⟩, if_neg hst] at hRe
        rw [hRe]
        exact (arm_gone _ (H.out.keep f1) p ht hst).mono fun e w' ⟨he, hf⟩ => ⟨he, H.out.keep (f1.trans hf), (f1.trans hf).no⟩
    · have hRe := HR.out
      rw [if_neg (fun h => ht h.1)] at hRe
      rw [hRe]
      exact (arm_no _ true (H.out.keep f1) p (fun h => ht h.1)).mono fun e w' ⟨he, hf⟩ => ⟨he, H.out.keep (f1.trans hf), (f1.trans hf).no⟩
  have HCL := Lib.hid hcl; clear hcl
  obtain ⟨d, area, idx⟩ := p
  unfold placeV at HCL ⊢
  simp only at HCL ⊢
  go_enter Try.func115, Try.ntmps115
  go_wp2_with (first
    | (refine im_box rfl 25 _ rfl rfl ?_; intro w1 b1 f1 z1; have Z1 := Lib.hid z1; clear z1; obtain ⟨p0, p1, p2⟩ := plc_cells (p := ⟨d, area, idx⟩) b1; have hl1 := lt_of_blk b1; clear b1))
  refine (HCL.out w1 f1).mono ?_; rintro e w2 ⟨rfl, s2, f2⟩
  have S2 := Lib.hid s2; clear s2
  go_wp2_with fail
  go_ret
  exact ⟨rfl, S2.out, f2⟩

set_option maxRecDepth 100000 in
set_option maxHeartbeats 1000000 in
theorem srot_calls (h : ShelfAt w O s S) (p : Shf0.Place) (m : Int) : Calls Try.prog 114 #[.pointer (some ⟨s, 0, none⟩), placeV p, .int .i64 m] w fun e w' => e = .returned (.int .i64 (Shf0.rot S p m).1) ∧ ShelfAt w' O s (Shf0.rot S p m).2 ∧ Fr O w w' := by
  have H := Lib.hid h; clear h
  obtain ⟨ok, hok⟩ : ∃ ok, ok = decide (0 ≤ m ∧ m < 512) := ⟨_, rfl⟩
  obtain ⟨R, hR⟩ : ∃ R, R = Shf0.rot S p m := ⟨_, rfl⟩
  have hR' : R = if Shf0.there S p ∧ ok = true then (if Shf0.state S p.disk = 1 then ((Dsk0.rot (Shf0.bayD S p.disk.toNat) (Shf0.number S p) m).1, Shf0.turnD S p.disk.toNat fun D => (Dsk0.rot D (Shf0.number S p) m).2) else (15, S)) else (1, S) := by rw [hR, hok]; rfl
  rw [← hR]
  clear hR
  have HR := Lib.hid hR'; clear hR'
  have hcl : ∀ w1 mb, Fr (fun _ => False) w w1 → w1.cell? ⟨mb, 0, none⟩ = some (.int .i64 m) → Calls Try.prog 63 #[.pointer (some ⟨s, 0, none⟩), placeV p, .bool ok, .func (.func 122) #[] #[.pointer (some ⟨mb, 0, none⟩)]] w1 fun e w' => e = .returned (.int .i64 R.1) ∧ ShelfAt w' O s R.2 ∧ Fr O w w' := fun w1 mb f1 hm => by
    by_cases ht : Shf0.there S p ∧ ok = true
    · obtain ⟨ht, hk1⟩ := ht
      by_cases hst : Shf0.state S p.disk = 1
      · have hRe := HR.out
        rw [if_pos ⟨ht, hk1⟩, if_pos hst] at hRe
        rw [hRe, hk1]
        exact (arm_rot _ (fun L D r w1 w' => r = (Dsk0.rot D (Shf0.number S p) m).1 ∧ DiskAt w' L.g L.bd L.bc L.ba (Dsk0.rot D (Shf0.number S p) m).2 ∧ Fr L.foot w1 w') (H.out.keep f1) p ht hst (fun L D t w3 hf hk => (rot1_calls L D t _ m mb w3 hk ((hf.cb (World.block_lt_of_cell? w1 ⟨mb, 0, none⟩ hm) (fun h => h)).trans hm)).mono fun e w' ⟨he, h1, h2⟩ => ⟨_, he, rfl, h1, h2⟩)).mono fun e w' hp => arm_turned (fun D => Dsk0.rot D (Shf0.number S p) m) (fun D => rot_length D _ _) p w f1 hp
      · have hRe := HR.out
        rw [if_pos ⟨ht, hk1⟩, if_neg hst] at hRe
        rw [hRe, hk1]
        exact (arm_gone _ (H.out.keep f1) p ht hst).mono fun e w' ⟨he, hf⟩ => ⟨he, H.out.keep (f1.trans hf), (f1.trans hf).no⟩
    · have hRe := HR.out
      rw [if_neg ht] at hRe
      rw [hRe]
      exact (arm_no _ ok (H.out.keep f1) p ht).mono fun e w' ⟨he, hf⟩ => ⟨he, H.out.keep (f1.trans hf), (f1.trans hf).no⟩
  have HCL := Lib.hid hcl; clear hcl
  obtain ⟨d, area, idx⟩ := p
  unfold placeV at HCL ⊢
  simp only at HCL ⊢
  by_cases h0 : 0 ≤ m
  · have hok2 : ok = decide (m < 512) := by rw [hok]; simp [h0]
    subst hok2
    clear hok
    go_enter Try.func114, Try.ntmps114
    go_wp2_with (first
      | (refine im_box rfl 25 _ rfl rfl ?_; intro w1 b1 f1 z1; have Z1 := Lib.hid z1; clear z1; obtain ⟨p0, p1, p2⟩ := plc_cells (p := ⟨d, area, idx⟩) b1; have hl1 := lt_of_blk b1; clear b1)
      | (refine im_box rfl 3 _ rfl rfl ?_; intro w2 b2 f2 z2; have Z2 := Lib.hid z2; clear z2; have q0 : w2.cell? ⟨w1.heap.size, 0, none⟩ = some (.int .i64 m) := cell_of_blk b2; clear b2; have p0' := (f2.cb hl1 (fun h => h)).trans p0; have p1' := (f2.cb hl1 (fun h => h)).trans p1; have p2' := (f2.cb hl1 (fun h => h)).trans p2))
    refine (HCL.out w2 w1.heap.size (f1.trans f2) q0).mono ?_; rintro e w3 ⟨rfl, s3, f3⟩
    have S3 := Lib.hid s3; clear s3
    go_wp2_with fail
    go_ret
    exact ⟨rfl, S3.out, f3⟩
  · have hok2 : ok = false := by rw [hok]; simp [h0]
    subst hok2
    clear hok
    go_enter Try.func114, Try.ntmps114
    go_wp2_with (first
      | (refine im_box rfl 25 _ rfl rfl ?_; intro w1 b1 f1 z1; have Z1 := Lib.hid z1; clear z1; obtain ⟨p0, p1, p2⟩ := plc_cells (p := ⟨d, area, idx⟩) b1; have hl1 := lt_of_blk b1; clear b1)
      | (refine im_box rfl 3 _ rfl rfl ?_; intro w2 b2 f2 z2; have Z2 := Lib.hid z2; clear z2; have q0 : w2.cell? ⟨w1.heap.size, 0, none⟩ = some (.int .i64 m) := cell_of_blk b2; clear b2; have p0' := (f2.cb hl1 (fun h => h)).trans p0; have p1' := (f2.cb hl1 (fun h => h)).trans p1; have p2' := (f2.cb hl1 (fun h => h)).trans p2))
    refine (HCL.out w2 w1.heap.size (f1.trans f2) q0).mono ?_; rintro e w3 ⟨rfl, s3, f3⟩
    have S3 := Lib.hid s3; clear s3
    go_wp2_with fail
    go_ret
    exact ⟨rfl, S3.out, f3⟩

set_option maxRecDepth 100000 in
set_option maxHeartbeats 1000000 in
theorem smisdirect_calls (h : ShelfAt w O s S) (p q : Shf0.Place) : Calls Try.prog 116 #[.pointer (some ⟨s, 0, none⟩), placeV p, placeV q] w fun e w' => e = .returned (.int .i64 (Shf0.misdirect S p q).1) ∧ ShelfAt w' O s (Shf0.misdirect S p q).2 ∧ Fr O w w' := by
  have H := Lib.hid h; clear h
  obtain ⟨m, hm⟩ : ∃ m, m = Shf0.number S q := ⟨_, rfl⟩
  obtain ⟨ok, hok⟩ : ∃ ok, ok = decide (0 ≤ m ∧ p.disk = q.disk) := ⟨_, rfl⟩
  obtain ⟨R, hR⟩ : ∃ R, R = Shf0.misdirect S p q := ⟨_, rfl⟩
  have hR' : R = if Shf0.there S p ∧ ok = true then (if Shf0.state S p.disk = 1 then ((Dsk0.misdirect (Shf0.bayD S p.disk.toNat) (Shf0.number S p) m).1, Shf0.turnD S p.disk.toNat fun D => (Dsk0.misdirect D (Shf0.number S p) m).2) else (15, S)) else (1, S) := by rw [hR, hok, hm]; rfl
  rw [← hR]
  clear hR
  have HM := Lib.hid hm; clear hm
  have HR := Lib.hid hR'; clear hR'
  have hcl : ∀ w1 mb, Fr (fun _ => False) w w1 → w1.cell? ⟨mb, 0, none⟩ = some (.int .i64 m) → Calls Try.prog 63 #[.pointer (some ⟨s, 0, none⟩), placeV p, .bool ok, .func (.func 124) #[] #[.pointer (some ⟨mb, 0, none⟩)]] w1 fun e w' => e = .returned (.int .i64 R.1) ∧ ShelfAt w' O s R.2 ∧ Fr O w w' := fun w1 mb f1 hm => by
    by_cases ht : Shf0.there S p ∧ ok = true
    · obtain ⟨ht, hk1⟩ := ht
      by_cases hst : Shf0.state S p.disk = 1
      · have hRe := HR.out
        rw [if_pos ⟨ht, hk1⟩, if_pos hst] at hRe
        rw [hRe, hk1]
        exact (arm_misdirect _ (fun L D r w1 w' => r = (Dsk0.misdirect D (Shf0.number S p) m).1 ∧ DiskAt w' L.g L.bd L.bc L.ba (Dsk0.misdirect D (Shf0.number S p) m).2 ∧ Fr L.foot w1 w') (H.out.keep f1) p ht hst (fun L D t w3 hf hk => (misdirect1_calls L D t _ m mb w3 hk ((hf.cb (World.block_lt_of_cell? w1 ⟨mb, 0, none⟩ hm) (fun h => h)).trans hm)).mono fun e w' ⟨he, h1, h2⟩ => ⟨_, he, rfl, h1, h2⟩)).mono fun e w' hp => arm_turned (fun D => Dsk0.misdirect D (Shf0.number S p) m) (fun D => misdirect_length D _ _) p w f1 hp
      · have hRe := HR.out
        rw [if_pos ⟨ht, hk1⟩, if_neg hst] at hRe
        rw [hRe, hk1]
        exact (arm_gone _ (H.out.keep f1) p ht hst).mono fun e w' ⟨he, hf⟩ => ⟨he, H.out.keep (f1.trans hf), (f1.trans hf).no⟩
    · have hRe := HR.out
      rw [if_neg ht] at hRe
      rw [hRe]
      exact (arm_no _ ok (H.out.keep f1) p ht).mono fun e w' ⟨he, hf⟩ => ⟨he, H.out.keep (f1.trans hf), (f1.trans hf).no⟩
  have HCL := Lib.hid hcl; clear hcl
  obtain ⟨d, area, idx⟩ := p
  obtain ⟨d2, area2, idx2⟩ := q
  simp only at hok
  unfold placeV at HCL ⊢
  simp only at HCL ⊢
  have hcase : ok = (decide (0 ≤ m) && (d == d2)) := by
    rw [hok]
    by_cases h0 : 0 ≤ m <;> by_cases h1 : d = d2 <;> simp [h0, h1]
  have HOK := Lib.hid hcase
  clear hok
  by_cases h0 : 0 ≤ m
  · have hok2 : ok = (d == d2) := by rw [hcase]; simp [h0]
    subst hok2
    clear hcase HOK
    go_enter Try.func116, Try.ntmps116
    go_wp2_with (first
      | (refine im_box (o := ⟨some 4, _, _, _, _, _⟩) rfl 25 _ rfl rfl ?_; intro w1 b1 f1 z1; have Z1 := Lib.hid z1; clear z1; obtain ⟨p0, p1, p2⟩ := plc_cells (p := ⟨d, area, idx⟩) b1; have hl1 := lt_of_blk b1; clear b1)
      | (refine im_box (o := ⟨some 5, _, _, _, _, _⟩) rfl 25 _ rfl rfl ?_; intro w2 b2 f2 z2; have Z2 := Lib.hid z2; clear z2; obtain ⟨q0, q1, q2⟩ := plc_cells (p := ⟨d2, area2, idx2⟩) b2; have hl2 := lt_of_blk b2; clear b2; have p0' := (f2.cb hl1 (fun h => h)).trans p0; have p1' := (f2.cb hl1 (fun h => h)).trans p1; have p2' := (f2.cb hl1 (fun h => h)).trans p2))
    refine (number_calls ⟨d2, area2, idx2⟩ w2 (H.out.keep (f1.trans f2))).mono ?_; rintro e w3 ⟨rfl, f3⟩
    rw [← HM.out]
    have hl1' := Nat.lt_of_lt_of_le hl1 f2.size
    have r0 := (f3.cb hl1' (fun h => h)).trans p0'
    have r1 := (f3.cb hl1' (fun h => h)).trans p1'
    have r2 := (f3.cb hl1' (fun h => h)).trans p2'
    have t0 := (f3.cb hl2 (fun h => h)).trans q0
    clear p0 p1 p2 p0' p1' p2' q0 q1 q2
    go_wp2_with (first
      | (refine im_alloc1 rfl 3 rfl (zero3 _) rfl ?_; intro w4 b4 f4 z4; have B4 := Lib.hid b4; clear b4; have Z4 := Lib.hid z4; clear z4)
      | (refine im_store1 rfl 3 _ _ rfl (v := .int .i64 m) rfl rfl rfl (by kernel_rfl) B4.out (by simp) ?_; intro w5 b5 f5 z5; have u0 : w5.cell? ⟨w3.heap.size, 0, none⟩ = some (.int .i64 m) := cell_of_blk b5; clear b5; have Z5 := Lib.hid z5; clear z5; have hls := f3.size; have g5 : Fr (fun q => q = w3.heap.size) w3 w5 := f4.no.trans f5; have r05 := (g5.cb (b := w.heap.size) (by omega) (by omega)).trans r0; have r15 := (g5.cb (b := w.heap.size) (by omega) (by omega)).trans r1; have r25 := (g5.cb (b := w.heap.size) (by omega) (by omega)).trans r2; have t05 := (g5.cb (b := w1.heap.size) (by omega) (by omega)).trans t0))
    have hw3 := f3.size
    have hz1 := Z1.out
    have hw2 := f2.size
    have ff : Fr (fun _ => False) w w5 := ((f1.trans f2).trans f3).trans' g5 (fun _ _ h => h) (fun i hi h => by omega)
    refine (HCL.out w5 w3.heap.size ff u0).mono ?_; rintro e w6 ⟨rfl, s6, f6⟩
    have S6 := Lib.hid s6; clear s6
    go_wp2_with fail
    go_ret
    exact ⟨rfl, S6.out, f6⟩
  · have hok2 : ok = false := by rw [hcase]; simp [h0]
    subst hok2
    clear hcase HOK
    go_enter Try.func116, Try.ntmps116
    go_wp2_with (first
      | (refine im_box (o := ⟨some 4, _, _, _, _, _⟩) rfl 25 _ rfl rfl ?_; intro w1 b1 f1 z1; have Z1 := Lib.hid z1; clear z1; obtain ⟨p0, p1, p2⟩ := plc_cells (p := ⟨d, area, idx⟩) b1; have hl1 := lt_of_blk b1; clear b1)
      | (refine im_box (o := ⟨some 5, _, _, _, _, _⟩) rfl 25 _ rfl rfl ?_; intro w2 b2 f2 z2; have Z2 := Lib.hid z2; clear z2; obtain ⟨q0, q1, q2⟩ := plc_cells (p := ⟨d2, area2, idx2⟩) b2; have hl2 := lt_of_blk b2; clear b2; have p0' := (f2.cb hl1 (fun h => h)).trans p0; have p1' := (f2.cb hl1 (fun h => h)).trans p1; have p2' := (f2.cb hl1 (fun h => h)).trans p2))
    refine (number_calls ⟨d2, area2, idx2⟩ w2 (H.out.keep (f1.trans f2))).mono ?_; rintro e w3 ⟨rfl, f3⟩
    rw [← HM.out]
    have hl1' := Nat.lt_of_lt_of_le hl1 f2.size
    have r0 := (f3.cb hl1' (fun h => h)).trans p0'
    have r1 := (f3.cb hl1' (fun h => h)).trans p1'
    have r2 := (f3.cb hl1' (fun h => h)).trans p2'
    have t0 := (f3.cb hl2 (fun h => h)).trans q0
    clear p0 p1 p2 p0' p1' p2' q0 q1 q2
    go_wp2_with (first
      | (refine im_alloc1 rfl 3 rfl (zero3 _) rfl ?_; intro w4 b4 f4 z4; have B4 := Lib.hid b4; clear b4; have Z4 := Lib.hid z4; clear z4)
      | (refine im_store1 rfl 3 _ _ rfl (v := .int .i64 m) rfl rfl rfl (by kernel_rfl) B4.out (by simp) ?_; intro w5 b5 f5 z5; have u0 : w5.cell? ⟨w3.heap.size, 0, none⟩ = some (.int .i64 m) := cell_of_blk b5; clear b5; have Z5 := Lib.hid z5; clear z5; have hls := f3.size; have g5 : Fr (fun q => q = w3.heap.size) w3 w5 := f4.no.trans f5; have r05 := (g5.cb (b := w.heap.size) (by omega) (by omega)).trans r0; have r15 := (g5.cb (b := w.heap.size) (by omega) (by omega)).trans r1; have r25 := (g5.cb (b := w.heap.size) (by omega) (by omega)).trans r2; have t05 := (g5.cb (b := w1.heap.size) (by omega) (by omega)).trans t0))
    have hw3 := f3.size
    have hz1 := Z1.out
    have hw2 := f2.size
    have ff : Fr (fun _ => False) w w5 := ((f1.trans f2).trans f3).trans' g5 (fun _ _ h => h) (fun i hi h => by omega)
    refine (HCL.out w5 w3.heap.size ff u0).mono ?_; rintro e w6 ⟨rfl, s6, f6⟩
    have S6 := Lib.hid s6; clear s6
    go_wp2_with fail
    go_ret
    exact ⟨rfl, S6.out, f6⟩
end
end Go.Proofs.Ytmbkmfpnjpkakaa
