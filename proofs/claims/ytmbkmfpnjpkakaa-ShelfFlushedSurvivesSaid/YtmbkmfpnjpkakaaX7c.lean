/- One operation of a script on the program's shelf, some kinds (printed by wip/tools/sdo.py). -/
import Derived.Test.YtmbkmfpnjpkakaaX7
namespace Go.Proofs.Ytmbkmfpnjpkakaa
open Go.RowKit Go.Im Go.Dsk0
section
variable {w : World} {O : Nat → Prop} {s : Nat} {S : Shf0.Shelf}

set_option maxRecDepth 100000 in
set_option maxHeartbeats 4000000 in
theorem sdo_write (h : ShelfAt w O s S) (o : Shf0.SOp) {pv : Value} (hk : o.kind = 1) : Calls Try.prog 90 #[.pointer (some ⟨s, 0, none⟩), .agg (sopC o pv)] w fun e w' => e = .returned (resV (([], 0, (Shf0.write S o.at_ (Shf0.text o)).1))) ∧ Stepped O s ((Shf0.write S o.at_ (Shf0.text o)).2) w w' := by
  obtain ⟨kind, ⟨a0, a1, a2⟩, ⟨c0, c1, c2⟩, n, fill, size, picks⟩ := o
  change kind = 1 at hk
  subst hk
  have HO := Lib.hid (fun q (hq : O q) => h.olt hq)
  have H := Lib.hid h; clear h
  obtain ⟨T, hT⟩ : ∃ T, T = Shf0.text ⟨1, ⟨a0, a1, a2⟩, ⟨c0, c1, c2⟩, n, fill, size, picks⟩ := ⟨_, rfl⟩
  have hcall : ∀ W : World, Calls Try.prog 54 #[.agg (sopC ⟨1, ⟨a0, a1, a2⟩, ⟨c0, c1, c2⟩, n, fill, size, picks⟩ pv)] W fun e w' => e = .returned (.string ⟨T.toArray⟩) ∧ Fr (fun _ => False) W w' := fun W => by
    rw [hT]; exact text17_calls _ pv W
  rw [← hT]
  clear hT
  obtain ⟨R, hR⟩ : ∃ R, R = Shf0.write S ⟨a0, a1, a2⟩ T := ⟨_, rfl⟩
  simp only
  rw [← hR]
  have HR := Lib.hid hR; clear hR
  unfold sopC at hcall
  simp only at hcall
  obtain ⟨fz, hfz⟩ : ∃ fz : Value, fz = B fill := ⟨_, rfl⟩
  unfold sopC
  simp only
  rw [← hfz] at hcall ⊢
  clear hfz
  have HC := Lib.hid hcall; clear hcall
  go_enter Try.func90, Try.ntmps90
  go_wp2_with (first
    | (refine im_box rfl 90 _ rfl rfl ?_; intro w1 b1 f1 z1; have B1 := Lib.hid b1; clear b1; have Z1 := Lib.hid z1; clear z1)
    | (refine im_alloc_row (w := w1) rfl 148 rfl (zero148 _) ?_; intro w2 b2 f2 z2; have B2 := Lib.hid b2; clear b2; have Z2 := Lib.hid z2; clear z2)
    | (refine im_alloc_row (w := w2) rfl 148 rfl (zero148 _) ?_; intro w3 b3 f3 z3; have B3 := Lib.hid b3; clear b3; have Z3 := Lib.hid z3; clear z3)
    | (refine im_store_row (w := w3) rfl 148 _ _ rfl (vs := #[.string ⟨#[]⟩, .int .i64 0, .int .i64 0]) rfl rfl B3.out rfl info148 (res_one _ _ _) ?_; intro w4 b4 f4 z4; have B4 := Lib.hid b4; clear b4; have Z4 := Lib.hid z4; clear z4; have HX := Lib.hid (do_box B1.out Z1.out f2 Z2.out f3 f4); have HA := Lib.hid (do_res B2.out Z2.out f3 f4); have HP := Lib.hid (do_pre f1 f2 f3 f4); obtain ⟨e0, e1, e2, e3, e4, e5, e6, e7, e8, e9, e10⟩ := cells11 HX.out; clear f1 f2 f3 f4))
  have HS4 := Lib.hid (H.out.keep HP.out)
  have HZ := Lib.hid (show w.heap.size ≤ w1.heap.size ∧ w1.heap.size < w2.heap.size ∧ w2.heap.size < w4.heap.size ∧ w.heap.size < w4.heap.size ∧ w.heap.size < w1.heap.size from by have h1 := Z1.out; have h2 := Z2.out; have h3 := Z3.out; have h4 := Z4.out; omega)
  have hS : (fun W : World => W.heap[w.heap.size]? = some (.cells #[.int .i64 1, .int .i64 a0, .int .i64 a1, .int .i64 a2, .int .i64 c0, .int .i64 c1, .int .i64 c2, .int .i64 n, fz, .int .i64 size, pv] 90 (0, 0))) w4.drew := HX.out
  refine wp_region_seqF (fun W => W.heap[w.heap.size]? = some (.cells #[.int .i64 1, .int .i64 a0, .int .i64 a1, .int .i64 a2, .int .i64 c0, .int .i64 c1, .int .i64 c2, .int .i64 n, fz, .int .i64 size, pv] 90 (0, 0))) [0, 1, 2, 3, 4, 5, 6, 7] [4, 5, 7] 7 (by kernel_rfl) (by kernel_rfl) (by kernel_rfl) ?_
  simp only [pickOps, List.filterMap_cons, List.filterMap_nil, List.getElem?_toArray, List.getElem?_cons_zero, List.getElem?_cons_succ, Option.map_some]
  repeat (refine seqF_read (v := ?_) (by rfl) (by rfl) hS ?_ ?_; rotate_left; (focus (intro W hS; (try dsimp only at hS); obtain ⟨s0, s1, s2, s3, s4, s5, s6, s7, s8, s9, s10⟩ := cells11 hS; go_simp; try with_reducible rfl)); simp only [Act.put, List.setIfInBounds_toArray, List.set_cons_zero, List.set_cons_succ])
  refine seqF_eff (by rfl) (by rfl) fun K hK => ?_
  refine wp_callC 54 #[.agg #[.int .i64 1, .int .i64 a0, .int .i64 a1, .int .i64 a2, .int .i64 c0, .int .i64 c1, .int .i64 c2, .int .i64 n, fz, .int .i64 size, pv]] (by go_simp) (R := fun v w' => v = .string ⟨T.toArray⟩ ∧ Fr (fun _ => False) w4 w') ((HC.out w4.drew).mono (by rintro e w' ⟨rfl, hf⟩; exact ⟨_, rfl, rfl, hf.undrew⟩)) ?_
  rintro v x1 ⟨rfl, g1⟩
  have hS1 : (fun W : World => W.heap[w.heap.size]? = some (.cells #[.int .i64 1, .int .i64 a0, .int .i64 a1, .int .i64 a2, .int .i64 c0, .int .i64 c1, .int .i64 c2, .int .i64 n, fz, .int .i64 size, pv] 90 (0, 0))) x1 := (g1.block _ HZ.out.2.2.2.1 (fun h => h)).trans HX.out
  refine hK.out _ _ (fun _ => hS1) ?_
  simp only [Act.put, List.setIfInBounds_toArray, List.set_cons_zero, List.set_cons_succ]
  refine seqF_eff (by rfl) (by rfl) fun K hK => ?_
  refine wp_callC 53 #[.pointer (some ⟨s, 0, none⟩), .agg #[.int .i64 a0, .int .i64 a1, .int .i64 a2], .string ⟨T.toArray⟩] (by go_simp) (R := fun v w' => v = .int .i64 R.1 ∧ Stepped O s R.2 w4 w') ((swrite_calls (HS4.out.keep g1) ⟨a0, a1, a2⟩ ⟨T.toArray⟩).mono (by
    rintro e w' ⟨rfl, d5, f5⟩
    refine ⟨_, rfl, by rw [HR.out], ?_, g1.no.trans f5⟩
    rw [HR.out]
    exact d5.grow)) ?_
  rintro v w5 ⟨rfl, hst⟩
  have HF5 := Lib.hid hst; clear hst
  have hS5 : (fun W : World => W.heap[w.heap.size]? = some (.cells #[.int .i64 1, .int .i64 a0, .int .i64 a1, .int .i64 a2, .int .i64 c0, .int .i64 c1, .int .i64 c2, .int .i64 n, fz, .int .i64 size, pv] 90 (0, 0))) w5 := (HF5.out.2.block _ HZ.out.2.2.2.1 (fun hq => by have h1 := HO.out _ hq; omega)).trans HX.out
  have HB5 := Lib.hid ((HF5.out.2.block w2.heap.size HZ.out.2.2.1 (fun hq => by have h1 := HO.out _ hq; have h2 := HZ.out; omega)).trans B4.out)
  have HA5 := Lib.hid ((HF5.out.2.block w1.heap.size (by have h2 := HZ.out; omega) (fun hq => by have h1 := HO.out _ hq; have h2 := HZ.out; omega)).trans HA.out)
  have hne : ¬ w1.heap.size = w2.heap.size := by have h2 := HZ.out; omega
  refine hK.out _ _ (fun _ => hS5) ?_
  simp only [Act.put, List.setIfInBounds_toArray, List.set_cons_zero, List.set_cons_succ]
  repeat (refine seqF_read (v := ?_) (by rfl) (by rfl) hS5 ?_ ?_; rotate_left; (focus (intro W hS; (try dsimp only at hS); obtain ⟨s0, s1, s2, s3, s4, s5, s6, s7, s8, s9, s10⟩ := cells11 hS; go_simp; try with_reducible rfl)); simp only [Act.put, List.setIfInBounds_toArray, List.set_cons_zero, List.set_cons_succ])
  refine seqF_eff (by rfl) (by rfl) fun K hK => ?_
  refine wp_store1 29 _ _ rfl (v := .int .i64 R.1) rfl rfl rfl (by kernel_rfl) HB5.out (by simp) ?_
  intro w6 b6 f6 z6
  have HB6 := Lib.hid b6; clear b6 z6
  obtain ⟨t0, t1, t2⟩ := cells3 HB6.out
  have HA6 := Lib.hid ((f6.block w1.heap.size (lt_of_blk HA5.out) hne).trans HA5.out)
  refine hK.out _ _ (fun h => absurd rfl h) ?_
  refine seqF_nil ?_
  clear hK hS hS1 hS5 g1
  go_wp2_with (first
    | (refine im_store_row (w := w6) rfl 148 _ _ rfl (vs := #[.string ⟨#[]⟩, .int .i64 0, .int .i64 R.1]) rfl rfl HA6.out rfl info148 (res_one _ _ _) ?_; intro w7 b7 f7 z7; have B7 := Lib.hid b7; clear b7 z7))
  (try simp only [Exit.inBlock, Exit.then])
  refine bodyPost_ret (res148 _ _ w1.heap.size _ rfl B7.out rfl) rfl ?_
  exact ⟨rfl, do_fin HO.out HP.out (ra := w1.heap.size) (rb := w2.heap.size) (by have h2 := HZ.out; omega) (by have h2 := HZ.out; omega) HF5.out ((f6.mono fun q _ hq => .inr hq).trans (f7.mono fun q _ hq => .inl hq))⟩

set_option maxRecDepth 100000 in
set_option maxHeartbeats 4000000 in
theorem sdo_rot (h : ShelfAt w O s S) (o : Shf0.SOp) {pv : Value} (hk : o.kind = 11) : Calls Try.prog 90 #[.pointer (some ⟨s, 0, none⟩), .agg (sopC o pv)] w fun e w' => e = .returned (resV (([], 0, (Shf0.rot S o.at_ o.n).1))) ∧ Stepped O s ((Shf0.rot S o.at_ o.n).2) w w' := by
  obtain ⟨kind, ⟨a0, a1, a2⟩, ⟨c0, c1, c2⟩, n, fill, size, picks⟩ := o
  change kind = 11 at hk
  subst hk
  have HO := Lib.hid (fun q (hq : O q) => h.olt hq)
  have H := Lib.hid h; clear h
  obtain ⟨R, hR⟩ : ∃ R, R = Shf0.rot S ⟨a0, a1, a2⟩ n := ⟨_, rfl⟩
  try simp only
  rw [← hR]
  have HR := Lib.hid hR; clear hR
  obtain ⟨fz, hfz⟩ : ∃ fz : Value, fz = B fill := ⟨_, rfl⟩
  unfold sopC
  simp only
  rw [← hfz]
  clear hfz
  go_enter Try.func90, Try.ntmps90
  go_wp2_with (first
    | (refine im_box rfl 90 _ rfl rfl ?_; intro w1 b1 f1 z1; have B1 := Lib.hid b1; clear b1; have Z1 := Lib.hid z1; clear z1)
    | (refine im_alloc_row (w := w1) rfl 148 rfl (zero148 _) ?_; intro w2 b2 f2 z2; have B2 := Lib.hid b2; clear b2; have Z2 := Lib.hid z2; clear z2)
    | (refine im_alloc_row (w := w2) rfl 148 rfl (zero148 _) ?_; intro w3 b3 f3 z3; have B3 := Lib.hid b3; clear b3; have Z3 := Lib.hid z3; clear z3)
    | (refine im_store_row (w := w3) rfl 148 _ _ rfl (vs := #[.string ⟨#[]⟩, .int .i64 0, .int .i64 0]) rfl rfl B3.out rfl info148 (res_one _ _ _) ?_; intro w4 b4 f4 z4; have B4 := Lib.hid b4; clear b4; have Z4 := Lib.hid z4; clear z4; have HX := Lib.hid (do_box B1.out Z1.out f2 Z2.out f3 f4); have HA := Lib.hid (do_res B2.out Z2.out f3 f4); have HP := Lib.hid (do_pre f1 f2 f3 f4); obtain ⟨e0, e1, e2, e3, e4, e5, e6, e7, e8, e9, e10⟩ := cells11 HX.out; clear f1 f2 f3 f4))
  have HS4 := Lib.hid (H.out.keep HP.out)
  refine (srot_calls HS4.out ⟨a0, a1, a2⟩ n).mono ?_; rintro e w5 ⟨rfl, d5, f5⟩
  rw [← HR.out]
  have HF5 : Hid (Stepped O s R.2 w4 w5) := Lib.hid (by rw [HR.out]; exact ⟨d5.grow, f5⟩)
  clear d5 f5
  have HZ := Lib.hid (show w.heap.size ≤ w1.heap.size ∧ w1.heap.size < w2.heap.size ∧ w2.heap.size < w4.heap.size ∧ w.heap.size < w4.heap.size from by have h1 := Z1.out; have h2 := Z2.out; have h3 := Z3.out; have h4 := Z4.out; omega)
  have HB5 := Lib.hid ((HF5.out.2.block w2.heap.size HZ.out.2.2.1 (fun hq => by have h1 := HO.out _ hq; have h2 := HZ.out; omega)).trans B4.out)
  have HA5 := Lib.hid ((HF5.out.2.block w1.heap.size (by have h2 := HZ.out; omega) (fun hq => by have h1 := HO.out _ hq; have h2 := HZ.out; omega)).trans HA.out)
  have hne : ¬ w1.heap.size = w2.heap.size := by have h2 := HZ.out; omega
  obtain ⟨r0, r1, r2⟩ := cells3 HB5.out
  go_wp2_with (first
    | (refine im_store1 rfl 29 _ _ rfl (b := w2.heap.size) (j := 2) (v := .int .i64 R.1) rfl rfl rfl (by kernel_rfl) HB5.out (by simp) ?_; intro w6 b6 f6 z6; have HB6 := Lib.hid b6; clear b6 z6; obtain ⟨t0, t1, t2⟩ := cells3 HB6.out; have HA6 := Lib.hid ((f6.block w1.heap.size (lt_of_blk HA5.out) hne).trans HA5.out))
    | (refine im_store_row (w := w6) rfl 148 _ _ rfl (vs := #[.string ⟨#[]⟩, .int .i64 0, .int .i64 R.1]) rfl rfl HA6.out rfl info148 (res_one _ _ _) ?_; intro w7 b7 f7 z7; have B7 := Lib.hid b7; clear b7 z7))
  (try simp only [Exit.inBlock, Exit.then])
  refine bodyPost_ret (res148 _ _ w1.heap.size _ rfl B7.out rfl) rfl ?_
  exact ⟨rfl, do_fin HO.out HP.out (ra := w1.heap.size) (rb := w2.heap.size) (by have h2 := HZ.out; omega) (by have h2 := HZ.out; omega) HF5.out ((f6.mono fun q _ hq => .inr hq).trans (f7.mono fun q _ hq => .inl hq))⟩

set_option maxRecDepth 100000 in
set_option maxHeartbeats 4000000 in
theorem sdo_lose (h : ShelfAt w O s S) (o : Shf0.SOp) {pv : Value} (hk : o.kind = 12) : Calls Try.prog 90 #[.pointer (some ⟨s, 0, none⟩), .agg (sopC o pv)] w fun e w' => e = .returned (resV (([], 0, (Shf0.lose S o.at_).1))) ∧ Stepped O s ((Shf0.lose S o.at_).2) w w' := by
  obtain ⟨kind, ⟨a0, a1, a2⟩, ⟨c0, c1, c2⟩, n, fill, size, picks⟩ := o
  change kind = 12 at hk
  subst hk
  have HO := Lib.hid (fun q (hq : O q) => h.olt hq)
  have H := Lib.hid h; clear h
  obtain ⟨R, hR⟩ : ∃ R, R = Shf0.lose S ⟨a0, a1, a2⟩ := ⟨_, rfl⟩
  try simp only
  rw [← hR]
  have HR := Lib.hid hR; clear hR
  obtain ⟨fz, hfz⟩ : ∃ fz : Value, fz = B fill := ⟨_, rfl⟩
  unfold sopC
  simp only
  rw [← hfz]
  clear hfz
  go_enter Try.func90, Try.ntmps90
  go_wp2_with (first
    | (refine im_box rfl 90 _ rfl rfl ?_; intro w1 b1 f1 z1; have B1 := Lib.hid b1; clear b1; have Z1 := Lib.hid z1; clear z1)
    | (refine im_alloc_row (w := w1) rfl 148 rfl (zero148 _) ?_; intro w2 b2 f2 z2; have B2 := Lib.hid b2; clear b2; have Z2 := Lib.hid z2; clear z2)
    | (refine im_alloc_row (w := w2) rfl 148 rfl (zero148 _) ?_; intro w3 b3 f3 z3; have B3 := Lib.hid b3; clear b3; have Z3 := Lib.hid z3; clear z3)
    | (refine im_store_row (w := w3) rfl 148 _ _ rfl (vs := #[.string ⟨#[]⟩, .int .i64 0, .int .i64 0]) rfl rfl B3.out rfl info148 (res_one _ _ _) ?_; intro w4 b4 f4 z4; have B4 := Lib.hid b4; clear b4; have Z4 := Lib.hid z4; clear z4; have HX := Lib.hid (do_box B1.out Z1.out f2 Z2.out f3 f4); have HA := Lib.hid (do_res B2.out Z2.out f3 f4); have HP := Lib.hid (do_pre f1 f2 f3 f4); obtain ⟨e0, e1, e2, e3, e4, e5, e6, e7, e8, e9, e10⟩ := cells11 HX.out; clear f1 f2 f3 f4))
  have HS4 := Lib.hid (H.out.keep HP.out)
  refine (slose_calls HS4.out ⟨a0, a1, a2⟩).mono ?_; rintro e w5 ⟨rfl, d5, f5⟩
  rw [← HR.out]
  have HF5 : Hid (Stepped O s R.2 w4 w5) := Lib.hid (by rw [HR.out]; exact ⟨d5.grow, f5⟩)
  clear d5 f5
  have HZ := Lib.hid (show w.heap.size ≤ w1.heap.size ∧ w1.heap.size < w2.heap.size ∧ w2.heap.size < w4.heap.size ∧ w.heap.size < w4.heap.size from by have h1 := Z1.out; have h2 := Z2.out; have h3 := Z3.out; have h4 := Z4.out; omega)
  have HB5 := Lib.hid ((HF5.out.2.block w2.heap.size HZ.out.2.2.1 (fun hq => by have h1 := HO.out _ hq; have h2 := HZ.out; omega)).trans B4.out)
  have HA5 := Lib.hid ((HF5.out.2.block w1.heap.size (by have h2 := HZ.out; omega) (fun hq => by have h1 := HO.out _ hq; have h2 := HZ.out; omega)).trans HA.out)
  have hne : ¬ w1.heap.size = w2.heap.size := by have h2 := HZ.out; omega
  obtain ⟨r0, r1, r2⟩ := cells3 HB5.out
  go_wp2_with (first
    | (refine im_store1 rfl 29 _ _ rfl (b := w2.heap.size) (j := 2) (v := .int .i64 R.1) rfl rfl rfl (by kernel_rfl) HB5.out (by simp) ?_; intro w6 b6 f6 z6; have HB6 := Lib.hid b6; clear b6 z6; obtain ⟨t0, t1, t2⟩ := cells3 HB6.out; have HA6 := Lib.hid ((f6.block w1.heap.size (lt_of_blk HA5.out) hne).trans HA5.out))
    | (refine im_store_row (w := w6) rfl 148 _ _ rfl (vs := #[.string ⟨#[]⟩, .int .i64 0, .int .i64 R.1]) rfl rfl HA6.out rfl info148 (res_one _ _ _) ?_; intro w7 b7 f7 z7; have B7 := Lib.hid b7; clear b7 z7))
  (try simp only [Exit.inBlock, Exit.then])
  refine bodyPost_ret (res148 _ _ w1.heap.size _ rfl B7.out rfl) rfl ?_
  exact ⟨rfl, do_fin HO.out HP.out (ra := w1.heap.size) (rb := w2.heap.size) (by have h2 := HZ.out; omega) (by have h2 := HZ.out; omega) HF5.out ((f6.mono fun q _ hq => .inr hq).trans (f7.mono fun q _ hq => .inl hq))⟩

set_option maxRecDepth 100000 in
set_option maxHeartbeats 4000000 in
theorem sdo_misdirect (h : ShelfAt w O s S) (o : Shf0.SOp) {pv : Value} (hk : o.kind = 13) : Calls Try.prog 90 #[.pointer (some ⟨s, 0, none⟩), .agg (sopC o pv)] w fun e w' => e = .returned (resV (([], 0, (Shf0.misdirect S o.at_ o.tgt).1))) ∧ Stepped O s ((Shf0.misdirect S o.at_ o.tgt).2) w w' := by
  obtain ⟨kind, ⟨a0, a1, a2⟩, ⟨c0, c1, c2⟩, n, fill, size, picks⟩ := o
  change kind = 13 at hk
  subst hk
  have HO := Lib.hid (fun q (hq : O q) => h.olt hq)
  have H := Lib.hid h; clear h
  obtain ⟨R, hR⟩ : ∃ R, R = Shf0.misdirect S ⟨a0, a1, a2⟩ ⟨c0, c1, c2⟩ := ⟨_, rfl⟩
  try simp only
  rw [← hR]
  have HR := Lib.hid hR; clear hR
  obtain ⟨fz, hfz⟩ : ∃ fz : Value, fz = B fill := ⟨_, rfl⟩
  unfold sopC
  simp only
  rw [← hfz]
  clear hfz
  go_enter Try.func90, Try.ntmps90
  go_wp2_with (first
    | (refine im_box rfl 90 _ rfl rfl ?_; intro w1 b1 f1 z1; have B1 := Lib.hid b1; clear b1; have Z1 := Lib.hid z1; clear z1)
    | (refine im_alloc_row (w := w1) rfl 148 rfl (zero148 _) ?_; intro w2 b2 f2 z2; have B2 := Lib.hid b2; clear b2; have Z2 := Lib.hid z2; clear z2)
    | (refine im_alloc_row (w := w2) rfl 148 rfl (zero148 _) ?_; intro w3 b3 f3 z3; have B3 := Lib.hid b3; clear b3; have Z3 := Lib.hid z3; clear z3)
    | (refine im_store_row (w := w3) rfl 148 _ _ rfl (vs := #[.string ⟨#[]⟩, .int .i64 0, .int .i64 0]) rfl rfl B3.out rfl info148 (res_one _ _ _) ?_; intro w4 b4 f4 z4; have B4 := Lib.hid b4; clear b4; have Z4 := Lib.hid z4; clear z4; have HX := Lib.hid (do_box B1.out Z1.out f2 Z2.out f3 f4); have HA := Lib.hid (do_res B2.out Z2.out f3 f4); have HP := Lib.hid (do_pre f1 f2 f3 f4); obtain ⟨e0, e1, e2, e3, e4, e5, e6, e7, e8, e9, e10⟩ := cells11 HX.out; clear f1 f2 f3 f4))
  have HS4 := Lib.hid (H.out.keep HP.out)
  refine (smisdirect_calls HS4.out ⟨a0, a1, a2⟩ ⟨c0, c1, c2⟩).mono ?_; rintro e w5 ⟨rfl, d5, f5⟩
  rw [← HR.out]
  have HF5 : Hid (Stepped O s R.2 w4 w5) := Lib.hid (by rw [HR.out]; exact ⟨d5.grow, f5⟩)
  clear d5 f5
  have HZ := Lib.hid (show w.heap.size ≤ w1.heap.size ∧ w1.heap.size < w2.heap.size ∧ w2.heap.size < w4.heap.size ∧ w.heap.size < w4.heap.size from by have h1 := Z1.out; have h2 := Z2.out; have h3 := Z3.out; have h4 := Z4.out; omega)
  have HB5 := Lib.hid ((HF5.out.2.block w2.heap.size HZ.out.2.2.1 (fun hq => by have h1 := HO.out _ hq; have h2 := HZ.out; omega)).trans B4.out)
  have HA5 := Lib.hid ((HF5.out.2.block w1.heap.size (by have h2 := HZ.out; omega) (fun hq => by have h1 := HO.out _ hq; have h2 := HZ.out; omega)).trans HA.out)
  have hne : ¬ w1.heap.size = w2.heap.size := by have h2 := HZ.out; omega
  obtain ⟨r0, r1, r2⟩ := cells3 HB5.out
  go_wp2_with (first
    | (refine im_store1 rfl 29 _ _ rfl (b := w2.heap.size) (j := 2) (v := .int .i64 R.1) rfl rfl rfl (by kernel_rfl) HB5.out (by simp) ?_; intro w6 b6 f6 z6; have HB6 := Lib.hid b6; clear b6 z6; obtain ⟨t0, t1, t2⟩ := cells3 HB6.out; have HA6 := Lib.hid ((f6.block w1.heap.size (lt_of_blk HA5.out) hne).trans HA5.out))
    | (refine im_store_row (w := w6) rfl 148 _ _ rfl (vs := #[.string ⟨#[]⟩, .int .i64 0, .int .i64 R.1]) rfl rfl HA6.out rfl info148 (res_one _ _ _) ?_; intro w7 b7 f7 z7; have B7 := Lib.hid b7; clear b7 z7))
  (try simp only [Exit.inBlock, Exit.then])
  refine bodyPost_ret (res148 _ _ w1.heap.size _ rfl B7.out rfl) rfl ?_
  exact ⟨rfl, do_fin HO.out HP.out (ra := w1.heap.size) (rb := w2.heap.size) (by have h2 := HZ.out; omega) (by have h2 := HZ.out; omega) HF5.out ((f6.mono fun q _ hq => .inr hq).trans (f7.mono fun q _ hq => .inl hq))⟩
end
end Go.Proofs.Ytmbkmfpnjpkakaa
