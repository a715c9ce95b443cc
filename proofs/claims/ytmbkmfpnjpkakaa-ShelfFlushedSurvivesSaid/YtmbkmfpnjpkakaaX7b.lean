/- One operation of a script on the program's shelf, some kinds (printed by wip/tools/sdo.py). -/
import Derived.Test.YtmbkmfpnjpkakaaX7
namespace Go.Proofs.Ytmbkmfpnjpkakaa
open Go.RowKit Go.Im Go.Dsk0
section
variable {w : World} {O : Nat → Prop} {s : Nat} {S : Shf0.Shelf}

set_option maxRecDepth 100000 in
set_option maxHeartbeats 4000000 in
theorem sdo_fuse (h : ShelfAt w O s S) (o : Shf0.SOp) {pv : Value} (hk : o.kind = 5) : Calls Try.prog 90 #[.pointer (some ⟨s, 0, none⟩), .agg (sopC o pv)] w fun e w' => e = .returned (resV (([], 0, 0))) ∧ Stepped O s (Shf0.fuse S o.n) w w' := by
  obtain ⟨kind, ⟨a0, a1, a2⟩, ⟨c0, c1, c2⟩, n, fill, size, picks⟩ := o
  change kind = 5 at hk
  subst hk
  have HO := Lib.hid (fun q (hq : O q) => h.olt hq)
  have H := Lib.hid h; clear h
  simp only
  obtain ⟨fz, hfz⟩ : ∃ fz : Value, fz = B fill := ⟨_, rfl⟩
  unfold sopC
  simp only
  rw [← hfz]
  clear hfz
  go_enter Try.func90, Try.ntmps90
  go_wp2_with (first
    | (refine im_box rfl 90 _ rfl rfl ?_; intro w1 b1 f1 z1; have B1 := Lib.hid b1; clear b1; have Z1 := Lib.hid z1; clear z1)
    | (refine im_alloc_row (w := w1) rfl 148 rfl (zero148 _) ?_; intro w2 b2 f2 z2; have B2 := Lib.hid b2; clear b2; have Z2 := Lib.hid z2; clear z2)
    | (refine im_alloc_row (w := w2) rfl 148 rfl (zero148 _) ?_; intro w3 b3 f3 z3; have B3 := Lib.hid b3; clear b3; have Z3 := Lib.hid z3; clear z3)
    | (refine im_store_row (w := w3) rfl 148 _ _ rfl (vs := #[.string ⟨#[]⟩, .int .i64 0, .int .i64 0]) rfl rfl B3.out rfl info148 (res_one _ _ _) ?_; intro w4 b4 f4 z4; have B4 := Lib.hid b4; clear b4; have Z4 := Lib.hid z4; clear z4; have HX := Lib.hid (do_box B1.out Z1.out f2 Z2.out f3 f4); have HA := Lib.hid (do_res B2.out Z2.out f3 f4); have HP := Lib.hid (do_pre f1 f2 f3 f4); obtain ⟨e0, e1, e2, e3, e4, e5, e6, e7, e8, e9, e10⟩ := cells11 HX.out; clear f1 f2 f3 f4))
  have HS4 := Lib.hid (H.out.keep HP.out)
  refine (fuse_calls HS4.out n).mono ?_; rintro e w5 ⟨rfl, d5, f5⟩
  have HF5 : Hid (Stepped O s (Shf0.fuse S n) w4 w5) := Lib.hid ⟨d5.grow, f5⟩
  clear d5 f5
  have HZ := Lib.hid (show w.heap.size ≤ w1.heap.size ∧ w1.heap.size < w2.heap.size ∧ w2.heap.size < w4.heap.size ∧ w.heap.size < w4.heap.size from by have h1 := Z1.out; have h2 := Z2.out; have h3 := Z3.out; have h4 := Z4.out; omega)
  have HB5 := Lib.hid ((HF5.out.2.block w2.heap.size HZ.out.2.2.1 (fun hq => by have h1 := HO.out _ hq; have h2 := HZ.out; omega)).trans B4.out)
  have HA5 := Lib.hid ((HF5.out.2.block w1.heap.size (by have h2 := HZ.out; omega) (fun hq => by have h1 := HO.out _ hq; have h2 := HZ.out; omega)).trans HA.out)
  have hne : ¬ w1.heap.size = w2.heap.size := by have h2 := HZ.out; omega
  obtain ⟨r0, r1, r2⟩ := cells3 HB5.out
  go_wp2_with (first
    | (refine im_store_row (w := w5) rfl 148 _ _ rfl (vs := #[.string ⟨#[]⟩, .int .i64 0, .int .i64 0]) rfl rfl HA5.out rfl info148 (res_one _ _ _) ?_; intro w7 b7 f7 z7; have B7 := Lib.hid b7; clear b7 z7))
  (try simp only [Exit.inBlock, Exit.then])
  refine bodyPost_ret (res148 _ _ w1.heap.size _ rfl B7.out rfl) rfl ?_
  exact ⟨rfl, do_fin HO.out HP.out (ra := w1.heap.size) (rb := w2.heap.size) (by have h2 := HZ.out; omega) (by have h2 := HZ.out; omega) HF5.out (f7.mono fun q _ hq => .inl hq)⟩

set_option maxRecDepth 100000 in
set_option maxHeartbeats 4000000 in
theorem sdo_mount (h : ShelfAt w O s S) (o : Shf0.SOp) (pa : Option Addr) (pc : Nat) (hp : IntsAt w (.slice pa o.picks.length pc) o.picks (fun b => ¬ O b)) (hpc : o.picks.length ≤ pc) (hk : o.kind = 6) : Calls Try.prog 90 #[.pointer (some ⟨s, 0, none⟩), .agg (sopC o (.slice pa o.picks.length pc))] w fun e w' => e = .returned (resV (([], 0, 0))) ∧ Stepped O s (Shf0.mount S o.picks) w w' := by
  obtain ⟨kind, ⟨a0, a1, a2⟩, ⟨c0, c1, c2⟩, n, fill, size, picks⟩ := o
  change kind = 6 at hk
  subst hk
  have HO := Lib.hid (fun q (hq : O q) => h.olt hq)
  have H := Lib.hid h; clear h
  simp only at hp hpc ⊢
  have HPI := Lib.hid hp; clear hp
  obtain ⟨fz, hfz⟩ : ∃ fz : Value, fz = B fill := ⟨_, rfl⟩
  unfold sopC
  simp only
  rw [← hfz]
  clear hfz
  go_enter Try.func90, Try.ntmps90
  go_wp2_with (first
    | (refine im_box rfl 90 _ rfl rfl ?_; intro w1 b1 f1 z1; have B1 := Lib.hid b1; clear b1; have Z1 := Lib.hid z1; clear z1)
    | (refine im_alloc_row (w := w1) rfl 148 rfl (zero148 _) ?_; intro w2 b2 f2 z2; have B2 := Lib.hid b2; clear b2; have Z2 := Lib.hid z2; clear z2)
    | (refine im_alloc_row (w := w2) rfl 148 rfl (zero148 _) ?_; intro w3 b3 f3 z3; have B3 := Lib.hid b3; clear b3; have Z3 := Lib.hid z3; clear z3)
    | (refine im_store_row (w := w3) rfl 148 _ _ rfl (vs := #[.string ⟨#[]⟩, .int .i64 0, .int .i64 0]) rfl rfl B3.out rfl info148 (res_one _ _ _) ?_; intro w4 b4 f4 z4; have B4 := Lib.hid b4; clear b4; have Z4 := Lib.hid z4; clear z4; have HX := Lib.hid (do_box B1.out Z1.out f2 Z2.out f3 f4); have HA := Lib.hid (do_res B2.out Z2.out f3 f4); have HP := Lib.hid (do_pre f1 f2 f3 f4); obtain ⟨e0, e1, e2, e3, e4, e5, e6, e7, e8, e9, e10⟩ := cells11 HX.out; clear f1 f2 f3 f4))
  have HS4 := Lib.hid (H.out.keep HP.out)
  refine (mount_calls HS4.out pa pc picks (HPI.out.fr HP.out (fun _ _ _ h => h)) hpc).mono ?_; rintro e w5 ⟨rfl, d5, f5⟩
  have HF5 : Hid (Stepped O s (Shf0.mount S picks) w4 w5) := Lib.hid ⟨d5.grow, f5⟩
  clear d5 f5
  have HZ := Lib.hid (show w.heap.size ≤ w1.heap.size ∧ w1.heap.size < w2.heap.size ∧ w2.heap.size < w4.heap.size ∧ w.heap.size < w4.heap.size from by have h1 := Z1.out; have h2 := Z2.out; have h3 := Z3.out; have h4 := Z4.out; omega)
  have HB5 := Lib.hid ((HF5.out.2.block w2.heap.size HZ.out.2.2.1 (fun hq => by have h1 := HO.out _ hq; have h2 := HZ.out; omega)).trans B4.out)
  have HA5 := Lib.hid ((HF5.out.2.block w1.heap.size (by have h2 := HZ.out; omega) (fun hq => by have h1 := HO.out _ hq; have h2 := HZ.out; omega)).trans HA.out)
  have hne : ¬ w1.heap.size = w2.heap.size := by have h2 := HZ.out; omega
  obtain ⟨r0, r1, r2⟩ := cells3 HB5.out
  go_wp2_with (first
    | (refine im_store_row (w := w5) rfl 148 _ _ rfl (vs := #[.string ⟨#[]⟩, .int .i64 0, .int .i64 0]) rfl rfl HA5.out rfl info148 (res_one _ _ _) ?_; intro w7 b7 f7 z7; have B7 := Lib.hid b7; clear b7 z7))
  (try simp only [Exit.inBlock, Exit.then])
  refine bodyPost_ret (res148 _ _ w1.heap.size _ rfl B7.out rfl) rfl ?_
  exact ⟨rfl, do_fin HO.out HP.out (ra := w1.heap.size) (rb := w2.heap.size) (by have h2 := HZ.out; omega) (by have h2 := HZ.out; omega) HF5.out (f7.mono fun q _ hq => .inl hq)⟩

set_option maxRecDepth 100000 in
set_option maxHeartbeats 4000000 in
theorem sdo_read (h : ShelfAt w O s S) (o : Shf0.SOp) {pv : Value} (hk : o.kind = 2) : Calls Try.prog 90 #[.pointer (some ⟨s, 0, none⟩), .agg (sopC o pv)] w fun e w' => e = .returned (resV (((Shf0.read S o.at_).1, 0, (Shf0.read S o.at_).2))) ∧ Stepped O s (S) w w' := by
  obtain ⟨kind, ⟨a0, a1, a2⟩, ⟨c0, c1, c2⟩, n, fill, size, picks⟩ := o
  change kind = 2 at hk
  subst hk
  have HO := Lib.hid (fun q (hq : O q) => h.olt hq)
  have H := Lib.hid h; clear h
  obtain ⟨R, hR⟩ : ∃ R, R = Shf0.read S ⟨a0, a1, a2⟩ := ⟨_, rfl⟩
  try simp only
  rw [← hR]
  have HR := Lib.hid hR; clear hR
  obtain ⟨fz, hfz⟩ : ∃ fz : Value, fz = B fill := ⟨_, rfl⟩
  unfold sopC
  simp only
  rw [← hfz]
  clear hfz
  go_enter Try.func90, Try.ntmps90
  go_wp2_with (first
    | (refine im_box rfl 90 _ rfl rfl ?_; intro w1 b1 f1 z1; have B1 := Lib.hid b1; clear b1; have Z1 := Lib.hid z1; clear z1)
    | (refine im_alloc_row (w := w1) rfl 148 rfl (zero148 _) ?_; intro w2 b2 f2 z2; have B2 := Lib.hid b2; clear b2; have Z2 := Lib.hid z2; clear z2)
    | (refine im_alloc_row (w := w2) rfl 148 rfl (zero148 _) ?_; intro w3 b3 f3 z3; have B3 := Lib.hid b3; clear b3; have Z3 := Lib.hid z3; clear z3)
    | (refine im_store_row (w := w3) rfl 148 _ _ rfl (vs := #[.string ⟨#[]⟩, .int .i64 0, .int .i64 0]) rfl rfl B3.out rfl info148 (res_one _ _ _) ?_; intro w4 b4 f4 z4; have B4 := Lib.hid b4; clear b4; have Z4 := Lib.hid z4; clear z4; have HX := Lib.hid (do_box B1.out Z1.out f2 Z2.out f3 f4); have HA := Lib.hid (do_res B2.out Z2.out f3 f4); have HP := Lib.hid (do_pre f1 f2 f3 f4); obtain ⟨e0, e1, e2, e3, e4, e5, e6, e7, e8, e9, e10⟩ := cells11 HX.out; clear f1 f2 f3 f4))
  have HS4 := Lib.hid (H.out.keep HP.out)
  refine (sread_calls HS4.out ⟨a0, a1, a2⟩).mono ?_; rintro e w5 ⟨rfl, f5⟩
  rw [← HR.out]
  have HF5 : Hid (Stepped O s S w4 w5) := Lib.hid ⟨(HS4.out.keep f5).grow, f5.no⟩
  clear f5
  have HZ := Lib.hid (show w.heap.size ≤ w1.heap.size ∧ w1.heap.size < w2.heap.size ∧ w2.heap.size < w4.heap.size ∧ w.heap.size < w4.heap.size from by have h1 := Z1.out; have h2 := Z2.out; have h3 := Z3.out; have h4 := Z4.out; omega)
  have HB5 := Lib.hid ((HF5.out.2.block w2.heap.size HZ.out.2.2.1 (fun hq => by have h1 := HO.out _ hq; have h2 := HZ.out; omega)).trans B4.out)
  have HA5 := Lib.hid ((HF5.out.2.block w1.heap.size (by have h2 := HZ.out; omega) (fun hq => by have h1 := HO.out _ hq; have h2 := HZ.out; omega)).trans HA.out)
  have hne : ¬ w1.heap.size = w2.heap.size := by have h2 := HZ.out; omega
  obtain ⟨r0, r1, r2⟩ := cells3 HB5.out
  go_wp2_with (first
    | (refine im_store1 (w := w5) rfl 9 _ _ rfl (b := w2.heap.size) (j := 0) (v := .string ⟨R.1.toArray⟩) rfl rfl rfl (by kernel_rfl) HB5.out (by simp) ?_; intro w6 b6 f6 z6; have HB6 := Lib.hid b6; clear b6 z6; have HA6 := Lib.hid ((f6.block w1.heap.size (lt_of_blk HA5.out) hne).trans HA5.out))
    | (refine im_store1 (w := w6) rfl 29 _ _ rfl (b := w2.heap.size) (j := 2) (v := .int .i64 R.2) rfl rfl rfl (by kernel_rfl) HB6.out (by simp) ?_; intro w8 b8 f8 z8; have HB8 := Lib.hid b8; clear b8 z8; obtain ⟨t0, t1, t2⟩ := cells3 HB8.out; have HA8 := Lib.hid ((f8.block w1.heap.size (lt_of_blk HA6.out) hne).trans HA6.out))
    | (refine im_store_row (w := w8) rfl 148 _ _ rfl (vs := #[.string ⟨R.1.toArray⟩, .int .i64 0, .int .i64 R.2]) rfl rfl HA8.out rfl info148 (res_one _ _ _) ?_; intro w7 b7 f7 z7; have B7 := Lib.hid b7; clear b7 z7))
  (try simp only [Exit.inBlock, Exit.then])
  refine bodyPost_ret (res148 _ _ w1.heap.size _ rfl B7.out rfl) rfl ?_
  exact ⟨rfl, do_fin HO.out HP.out (ra := w1.heap.size) (rb := w2.heap.size) (by have h2 := HZ.out; omega) (by have h2 := HZ.out; omega) HF5.out (((f6.trans f8).mono fun q _ hq => .inr hq).trans (f7.mono fun q _ hq => .inl hq))⟩

set_option maxRecDepth 100000 in
set_option maxHeartbeats 4000000 in
theorem sdo_remove (h : ShelfAt w O s S) (o : Shf0.SOp) (hil : S.images.length ≤ 1000) {pv : Value} (hk : o.kind = 8) : Calls Try.prog 90 #[.pointer (some ⟨s, 0, none⟩), .agg (sopC o pv)] w fun e w' => e = .returned (resV (([], (Shf0.remove S o.at_.disk).1, (Shf0.remove S o.at_.disk).2.1))) ∧ Stepped O s ((Shf0.remove S o.at_.disk).2.2) w w' := by
  obtain ⟨kind, ⟨a0, a1, a2⟩, ⟨c0, c1, c2⟩, n, fill, size, picks⟩ := o
  change kind = 8 at hk
  subst hk
  have HO := Lib.hid (fun q (hq : O q) => h.olt hq)
  have H := Lib.hid h; clear h
  obtain ⟨R, hR⟩ : ∃ R, R = Shf0.remove S a0 := ⟨_, rfl⟩
  try simp only
  rw [← hR]
  have HR := Lib.hid hR; clear hR
  obtain ⟨fz, hfz⟩ : ∃ fz : Value, fz = B fill := ⟨_, rfl⟩
  unfold sopC
  simp only
  rw [← hfz]
  clear hfz
  go_enter Try.func90, Try.ntmps90
  go_wp2_with (first
    | (refine im_box rfl 90 _ rfl rfl ?_; intro w1 b1 f1 z1; have B1 := Lib.hid b1; clear b1; have Z1 := Lib.hid z1; clear z1)
    | (refine im_alloc_row (w := w1) rfl 148 rfl (zero148 _) ?_; intro w2 b2 f2 z2; have B2 := Lib.hid b2; clear b2; have Z2 := Lib.hid z2; clear z2)
    | (refine im_alloc_row (w := w2) rfl 148 rfl (zero148 _) ?_; intro w3 b3 f3 z3; have B3 := Lib.hid b3; clear b3; have Z3 := Lib.hid z3; clear z3)
    | (refine im_store_row (w := w3) rfl 148 _ _ rfl (vs := #[.string ⟨#[]⟩, .int .i64 0, .int .i64 0]) rfl rfl B3.out rfl info148 (res_one _ _ _) ?_; intro w4 b4 f4 z4; have B4 := Lib.hid b4; clear b4; have Z4 := Lib.hid z4; clear z4; have HX := Lib.hid (do_box B1.out Z1.out f2 Z2.out f3 f4); have HA := Lib.hid (do_res B2.out Z2.out f3 f4); have HP := Lib.hid (do_pre f1 f2 f3 f4); obtain ⟨e0, e1, e2, e3, e4, e5, e6, e7, e8, e9, e10⟩ := cells11 HX.out; clear f1 f2 f3 f4))
  have HS4 := Lib.hid (H.out.keep HP.out)
  refine (remove_calls HS4.out a0 hil).mono ?_; rintro e w5 ⟨rfl, d5, f5⟩
  rw [← HR.out]
  have HF5 : Hid (Stepped O s R.2.2 w4 w5) := Lib.hid (by rw [HR.out]; exact ⟨d5, f5⟩)
  clear d5 f5
  have HZ := Lib.hid (show w.heap.size ≤ w1.heap.size ∧ w1.heap.size < w2.heap.size ∧ w2.heap.size < w4.heap.size ∧ w.heap.size < w4.heap.size from by have h1 := Z1.out; have h2 := Z2.out; have h3 := Z3.out; have h4 := Z4.out; omega)
  have HB5 := Lib.hid ((HF5.out.2.block w2.heap.size HZ.out.2.2.1 (fun hq => by have h1 := HO.out _ hq; have h2 := HZ.out; omega)).trans B4.out)
  have HA5 := Lib.hid ((HF5.out.2.block w1.heap.size (by have h2 := HZ.out; omega) (fun hq => by have h1 := HO.out _ hq; have h2 := HZ.out; omega)).trans HA.out)
  have hne : ¬ w1.heap.size = w2.heap.size := by have h2 := HZ.out; omega
  obtain ⟨r0, r1, r2⟩ := cells3 HB5.out
  go_wp2_with (first
    | (refine im_store1 (w := w5) rfl 3 _ _ rfl (b := w2.heap.size) (j := 1) (v := .int .i64 R.1) rfl rfl rfl (by kernel_rfl) HB5.out (by simp) ?_; intro w6 b6 f6 z6; have HB6 := Lib.hid b6; clear b6 z6; have HA6 := Lib.hid ((f6.block w1.heap.size (lt_of_blk HA5.out) hne).trans HA5.out))
    | (refine im_store1 (w := w6) rfl 29 _ _ rfl (b := w2.heap.size) (j := 2) (v := .int .i64 R.2.1) rfl rfl rfl (by kernel_rfl) HB6.out (by simp) ?_; intro w8 b8 f8 z8; have HB8 := Lib.hid b8; clear b8 z8; obtain ⟨t0, t1, t2⟩ := cells3 HB8.out; have HA8 := Lib.hid ((f8.block w1.heap.size (lt_of_blk HA6.out) hne).trans HA6.out))
    | (refine im_store_row (w := w8) rfl 148 _ _ rfl (vs := #[.string ⟨#[]⟩, .int .i64 R.1, .int .i64 R.2.1]) rfl rfl HA8.out rfl info148 (res_one _ _ _) ?_; intro w7 b7 f7 z7; have B7 := Lib.hid b7; clear b7 z7))
  (try simp only [Exit.inBlock, Exit.then])
  refine bodyPost_ret (res148 _ _ w1.heap.size _ rfl B7.out rfl) rfl ?_
  exact ⟨rfl, do_fin HO.out HP.out (ra := w1.heap.size) (rb := w2.heap.size) (by have h2 := HZ.out; omega) (by have h2 := HZ.out; omega) HF5.out (((f6.trans f8).mono fun q _ hq => .inr hq).trans (f7.mono fun q _ hq => .inl hq))⟩

set_option maxRecDepth 100000 in
set_option maxHeartbeats 4000000 in
theorem sdo_none (h : ShelfAt w O s S) (o : Shf0.SOp) {pv : Value} (hk : ¬ (1 ≤ o.kind ∧ o.kind ≤ 13)) : Calls Try.prog 90 #[.pointer (some ⟨s, 0, none⟩), .agg (sopC o pv)] w fun e w' => e = .returned (resV (([], 0, 0))) ∧ Stepped O s (S) w w' := by
  obtain ⟨kind, ⟨a0, a1, a2⟩, ⟨c0, c1, c2⟩, n, fill, size, picks⟩ := o
  change ¬ (1 ≤ kind ∧ kind ≤ 13) at hk
  have hb1 : (kind == 1) = false := by rw [beq_eq_false_iff_ne]; omega
  have hb2 : (kind == 2) = false := by rw [beq_eq_false_iff_ne]; omega
  have hb3 : (kind == 3) = false := by rw [beq_eq_false_iff_ne]; omega
  have hb4 : (kind == 4) = false := by rw [beq_eq_false_iff_ne]; omega
  have hb5 : (kind == 5) = false := by rw [beq_eq_false_iff_ne]; omega
  have hb6 : (kind == 6) = false := by rw [beq_eq_false_iff_ne]; omega
  have hb7 : (kind == 7) = false := by rw [beq_eq_false_iff_ne]; omega
  have hb8 : (kind == 8) = false := by rw [beq_eq_false_iff_ne]; omega
  have hb9 : (kind == 9) = false := by rw [beq_eq_false_iff_ne]; omega
  have hb10 : (kind == 10) = false := by rw [beq_eq_false_iff_ne]; omega
  have hb11 : (kind == 11) = false := by rw [beq_eq_false_iff_ne]; omega
  have hb12 : (kind == 12) = false := by rw [beq_eq_false_iff_ne]; omega
  have hb13 : (kind == 13) = false := by rw [beq_eq_false_iff_ne]; omega
  clear hk
  have HO := Lib.hid (fun q (hq : O q) => h.olt hq)
  have H := Lib.hid h; clear h
  obtain ⟨fz, hfz⟩ : ∃ fz : Value, fz = B fill := ⟨_, rfl⟩
  unfold sopC
  simp only
  rw [← hfz]
  clear hfz
  go_enter Try.func90, Try.ntmps90
  go_wp2_with (first
    | (refine im_box rfl 90 _ rfl rfl ?_; intro w1 b1 f1 z1; have B1 := Lib.hid b1; clear b1; have Z1 := Lib.hid z1; clear z1)
    | (refine im_alloc_row (w := w1) rfl 148 rfl (zero148 _) ?_; intro w2 b2 f2 z2; have B2 := Lib.hid b2; clear b2; have Z2 := Lib.hid z2; clear z2)
    | (refine im_alloc_row (w := w2) rfl 148 rfl (zero148 _) ?_; intro w3 b3 f3 z3; have B3 := Lib.hid b3; clear b3; have Z3 := Lib.hid z3; clear z3)
    | (refine im_store_row (w := w3) rfl 148 _ _ rfl (vs := #[.string ⟨#[]⟩, .int .i64 0, .int .i64 0]) rfl rfl B3.out rfl info148 (res_one _ _ _) ?_; intro w4 b4 f4 z4; have B4 := Lib.hid b4; clear b4; have Z4 := Lib.hid z4; clear z4; have HX := Lib.hid (do_box B1.out Z1.out f2 Z2.out f3 f4); have HA := Lib.hid (do_res B2.out Z2.out f3 f4); have HP := Lib.hid (do_pre f1 f2 f3 f4); obtain ⟨e0, e1, e2, e3, e4, e5, e6, e7, e8, e9, e10⟩ := cells11 HX.out; obtain ⟨r0, r1, r2⟩ := cells3 B4.out; clear f1 f2 f3 f4)
    | (refine im_store_row (w := w4) rfl 148 _ _ rfl (vs := #[.string ⟨#[]⟩, .int .i64 0, .int .i64 0]) rfl rfl HA.out rfl info148 (res_one _ _ _) ?_; intro w7 b7 f7 z7; have B7 := Lib.hid b7; clear b7 z7))
  have HS4 := Lib.hid (H.out.keep HP.out)
  have HZ := Lib.hid (show w.heap.size ≤ w1.heap.size ∧ w1.heap.size < w2.heap.size ∧ w2.heap.size < w4.heap.size ∧ w.heap.size < w4.heap.size from by have h1 := Z1.out; have h2 := Z2.out; have h3 := Z3.out; have h4 := Z4.out; omega)
  have HF5 : Hid (Stepped O s S w4 w4) := Lib.hid ⟨HS4.out.grow, Fr.refl _ _⟩
  (try simp only [Exit.inBlock, Exit.then])
  refine bodyPost_ret (res148 _ _ w1.heap.size _ rfl B7.out rfl) rfl ?_
  exact ⟨rfl, do_fin HO.out HP.out (ra := w1.heap.size) (rb := w2.heap.size) (by have h2 := HZ.out; omega) (by have h2 := HZ.out; omega) HF5.out (f7.mono fun q _ hq => .inl hq)⟩
end
end Go.Proofs.Ytmbkmfpnjpkakaa
