/- The program's shelf: step. -/
import Derived.Test.YtmbkmfpnjpkakaaS6
namespace Go.Proofs.Ytmbkmfpnjpkakaa
open Go.RowKit Go.Im Go.Dsk0

section
variable {w : World} {O : Nat → Prop} {s : Nat} {S : Shf0.Shelf}

set_option maxRecDepth 100000 in
set_option maxHeartbeats 1000000 in
theorem step0_calls  (F : Dsk → Dsk) (hF : ∀ D : Dsk, (F D).length = D.length) (h : ShelfAt w O s S) (d : Int) (h0 : 0 ≤ d) (h1 : d < S.bays.length)
    (hcall : ∀ (L : Loc) (D : Dsk) (t : Int) (w1 : World), Fr O w w1 → DK w1 L D → Calls Try.prog 92 #[.agg #[L.ptr, .int .i64 t]] w1 fun e w' => e = .returned (.tuple #[]) ∧ DiskAt w' L.g L.bd L.bc L.ba (F D) ∧ Fr L.foot w1 w') :
    Calls Try.prog 91 #[.pointer (some ⟨s, 0, none⟩), .int .i64 d, .func (.func 92) #[] #[]] w fun e w' => e = .returned (.int .i64 (Shf0.step S d F).1) ∧ ShelfAt w' O s (Shf0.step S d F).2 ∧ Fr O w w' ∧ w'.cell? ⟨s, 6, none⟩ = w.cell? ⟨s, 6, none⟩ := by
  obtain ⟨k, rfl⟩ : ∃ k : Nat, d = k := ⟨d.toNat, by omega⟩
  have HA := Lib.hid h
  obtain ⟨bs, im, bv, iv, hin⟩ := h
  obtain ⟨hp1, hp2, hp3⟩ := hin.pos
  obtain ⟨vb, cap, cur, rfl, hvb, hcz, hOv, hcell⟩ := hin.open_
  have hk : k < bs.length := by omega
  obtain ⟨⟨L, b⟩, hx⟩ : ∃ x, bs[k]? = some x := ⟨_, List.getElem?_eq_getElem hk⟩
  obtain ⟨c0, c1⟩ := hcell k _ hx
  simp only at c0 c1
  have c6 : w.cell? ⟨s, 6, none⟩ = some (.slice (some ⟨vb, 0, none⟩) bs.length cap) := cell_of_blk hin.head
  have c9 : w.cell? ⟨s, 9, none⟩ = some (.bool S.fused) := cell_of_blk hin.head
  have c10 : w.cell? ⟨s, 10, none⟩ = some (.int .i64 S.left) := cell_of_blk hin.head
  have HB := Lib.hid hin.head
  have HIN := Lib.hid hin
  have HX := Lib.hid hx
  have HC := Lib.hid hcall; clear hcall
  have hacc := access_calls HA.out k h0 h1
  have hDK := Lib.hid (hin.kb _ (List.mem_of_getElem? hx))
  have k0 : (0 : Int) ≤ k := by omega
  have k1 : (k : Int) < bs.length := by omega
  have hs104 := lt_of_blk hin.head
  have hvlt := lt_of_blk hvb
  have hvs : vb ≠ s := fun e => by
    subst e; exact absurd (cells_type hvb hin.head) (by decide)
  have hOs := hin.os
  have HFt := Lib.hid (foot_in hin hx)
  clear hcell hin hvb hx hp3 hcz
  obtain ⟨ac, hac⟩ : ∃ ac, ac = Shf0.access S k := ⟨_, rfl⟩
  obtain ⟨R, hR⟩ : ∃ R, R = Shf0.step S k F := ⟨_, rfl⟩
  have hR' : R = if ac ≠ 0 then (ac, S) else if S.fused = true then (if S.left = 0 then (14, { S with off := true, fused := false }) else (0, Shf0.turnD { S with left := IntKind.i64.wrap (S.left - 1) } k F)) else (0, Shf0.turnD S k F) := by rw [hR, hac]; rfl
  rw [← hR]
  clear hR
  by_cases ha : ac = 0
  · rw [if_neg (by simp [ha])] at hR'
    have ha1 : (ac != 0) = false := by simp [ha]
    have HAC := Lib.hid hac; clear hac
    cases hf : S.fused with
    | false =>
      have hR2 : R = (0, Shf0.turnD S k F) := by rw [hR', if_neg (by rw [hf]; simp)]
      rw [hf] at c9
      subst hR2
      clear hR' ha
      go_enter Try.func91, Try.ntmps91
      go_wp2_with fail
      refine hacc.mono ?_; rintro e w1 ⟨rfl, rfl⟩
      rw [← HAC.out]
      go_wp2_with fail
      refine (HC.out L b.D b.st _ (Fr.refl _ _) hDK.out).mono ?_; rintro e w1 ⟨rfl, d1, f1⟩
      have D1 := Lib.hid d1; clear d1
      go_wp2_with fail
      go_ret
      exact ⟨rfl, ⟨_, _, _, _, HIN.out.turn HX.out f1 (hDK.out.turn D1.out (hF _) f1.size) (hF _)⟩, f1.mono (fun q _ hq => HFt.out q (.inr hq)), f1.cb hs104 (foot_not hDK.out HIN.out.head (by decide) (by decide))⟩
    | true =>
      rw [if_pos hf] at hR'
      rw [hf] at c9
      by_cases hl : S.left = 0
      · have hR2 : R = (14, { S with off := true, fused := false }) := by rw [hR', if_pos hl]
        subst hR2
        rw [hl] at c10
        clear hR' ha hl
        go_enter Try.func91, Try.ntmps91
        go_wp2_with fail
        refine hacc.mono ?_; rintro e w1 ⟨rfl, rfl⟩
        rw [← HAC.out]
        go_wp2_with (first
          | (refine im_store1 rfl 4 _ _ rfl (b := s) (j := 8) (v := .bool true) rfl rfl rfl (by kernel_rfl) HB.out (by simp [shelfC]) ?_; intro w2 b2 f2 z2; have B2 := Lib.hid b2; clear b2; clear z2)
          | (refine im_store1 rfl 4 _ _ rfl (b := s) (j := 9) (v := .bool false) rfl rfl rfl (by kernel_rfl) B2.out (by simp [shelfC]) ?_; intro w3 b3 f3 z3; have B3 := Lib.hid b3; clear b3; clear z3))
        go_ret
        exact ⟨rfl, ⟨_, _, _, _, HIN.out.setHead (S' := { S with off := true, fused := false }) (f2.trans f3) B3.out ⟨HIN.out.ok.cfg, HIN.out.ok.sec, HIN.out.ok.num, HIN.out.ok.bay, HIN.out.ok.len, HIN.out.ok.st, HIN.out.ok.img⟩ rfl rfl⟩, (f2.trans f3).mono (fun q _ hq => by rw [hq]; exact hOs), (cell_of_blk B3.out).trans c6.symm⟩
      · have hR2 : R = (0, Shf0.turnD { S with left := IntKind.i64.wrap (S.left - 1) } k F) := by rw [hR', if_neg hl]
        subst hR2
        have hl1 : (S.left == 0) = false := by simp [hl]
        obtain ⟨N, hN⟩ : ∃ N, N = IntKind.i64.wrap (S.left - 1) := ⟨_, rfl⟩
        rw [← hN]
        have HNN := Lib.hid hN
        have hN' := hN.symm
        clear hR' ha hl hN
        go_enter Try.func91, Try.ntmps91
        go_wp2_with fail
        refine hacc.mono ?_; rintro e w1 ⟨rfl, rfl⟩
        rw [← HAC.out]
        go_wp2_with (first
          | (refine im_store1 rfl 3 _ _ rfl (b := s) (j := 10) (v := .int .i64 N) rfl rfl rfl (by kernel_rfl) HB.out (by simp [shelfC]) ?_; intro w2 b2 f2 z2; have B2 := Lib.hid b2; clear b2; clear z2; have c62 : w2.cell? ⟨s, 6, none⟩ = some (.slice (some ⟨vb, 0, none⟩) bs.length cap) := cell_of_blk B2.out; have c02 := (f2.cb hvlt hvs).trans c0; have c12 := (f2.cb hvlt hvs).trans c1))
        have hin2 := HIN.out.setHead (S' := { S with left := N }) f2 B2.out ⟨HIN.out.ok.cfg, HIN.out.ok.sec, HIN.out.ok.num, HIN.out.ok.bay, HIN.out.ok.len, HIN.out.ok.st, HIN.out.ok.img⟩ rfl rfl
        have HIN2 := Lib.hid hin2; clear hin2
        have ff2 : Fr O w w2 := f2.mono fun q _ hq => by rw [hq]; exact hOs
        have hDK2 := Lib.hid (HIN2.out.kb _ (List.mem_of_getElem? HX.out))
        go_wp2_with fail
        refine (HC.out L b.D b.st _ ff2 hDK2.out).mono ?_; rintro e w3 ⟨rfl, d3, f3⟩
        have D3 := Lib.hid d3; clear d3
        go_wp2_with fail
        go_ret
        exact ⟨rfl, ⟨_, _, _, _, HIN2.out.turn HX.out f3 (hDK2.out.turn D3.out (hF _) f3.size) (hF _)⟩, ff2.trans (f3.mono fun q _ hq => HFt.out q (.inr hq)), (f3.cb (lt_of_blk B2.out) (foot_not hDK2.out B2.out (by decide) (by decide))).trans (c62.trans c6.symm)⟩
  · rw [if_pos ha] at hR'
    subst hR'
    have ha1 : (ac != 0) = true := by simp [ha]
    have HAC := Lib.hid hac; clear hac ha
    go_enter Try.func91, Try.ntmps91
    go_wp2_with fail
    refine hacc.mono ?_; rintro e w1 ⟨rfl, rfl⟩
    rw [← HAC.out]
    go_wp2_with fail
    go_ret
    exact ⟨rfl, HA.out, Fr.refl _ _, rfl⟩

set_option maxRecDepth 100000 in
set_option maxHeartbeats 1000000 in
theorem step2_calls (p q : Value) (F : Dsk → Dsk) (hF : ∀ D : Dsk, (F D).length = D.length) (h : ShelfAt w O s S) (d : Int) (h0 : 0 ≤ d) (h1 : d < S.bays.length)
    (hcall : ∀ (L : Loc) (D : Dsk) (t : Int) (w1 : World), Fr O w w1 → DK w1 L D → Calls Try.prog 95 #[.agg #[L.ptr, .int .i64 t], p, q] w1 fun e w' => e = .returned (.tuple #[]) ∧ DiskAt w' L.g L.bd L.bc L.ba (F D) ∧ Fr L.foot w1 w') :
    Calls Try.prog 91 #[.pointer (some ⟨s, 0, none⟩), .int .i64 d, .func (.func 95) #[] #[p, q]] w fun e w' => e = .returned (.int .i64 (Shf0.step S d F).1) ∧ ShelfAt w' O s (Shf0.step S d F).2 ∧ Fr O w w' ∧ w'.cell? ⟨s, 6, none⟩ = w.cell? ⟨s, 6, none⟩ := by
  obtain ⟨k, rfl⟩ : ∃ k : Nat, d = k := ⟨d.toNat, by omega⟩
  have HA := Lib.hid h
  obtain ⟨bs, im, bv, iv, hin⟩ := h
  obtain ⟨hp1, hp2, hp3⟩ := hin.pos
  obtain ⟨vb, cap, cur, rfl, hvb, hcz, hOv, hcell⟩ := hin.open_
  have hk : k < bs.length := by omega
  obtain ⟨⟨L, b⟩, hx⟩ : ∃ x, bs[k]? = some x := ⟨_, List.getElem?_eq_getElem hk⟩
  obtain ⟨c0, c1⟩ := hcell k _ hx
  simp only at c0 c1
  have c6 : w.cell? ⟨s, 6, none⟩ = some (.slice (some ⟨vb, 0, none⟩) bs.length cap) := cell_of_blk hin.head
  have c9 : w.cell? ⟨s, 9, none⟩ = some (.bool S.fused) := cell_of_blk hin.head
  have c10 : w.cell? ⟨s, 10, none⟩ = some (.int .i64 S.left) := cell_of_blk hin.head
  have HB := Lib.hid hin.head
  have HIN := Lib.hid hin
  have HX := Lib.hid hx
  have HC := Lib.hid hcall; clear hcall
  have hacc := access_calls HA.out k h0 h1
  have hDK := Lib.hid (hin.kb _ (List.mem_of_getElem? hx))
  have k0 : (0 : Int) ≤ k := by omega
  have k1 : (k : Int) < bs.length := by omega
  have hs104 := lt_of_blk hin.head
  have hvlt := lt_of_blk hvb
  have hvs : vb ≠ s := fun e => by
    subst e; exact absurd (cells_type hvb hin.head) (by decide)
  have hOs := hin.os
  have HFt := Lib.hid (foot_in hin hx)
  clear hcell hin hvb hx hp3 hcz
  obtain ⟨ac, hac⟩ : ∃ ac, ac = Shf0.access S k := ⟨_, rfl⟩
  obtain ⟨R, hR⟩ : ∃ R, R = Shf0.step S k F := ⟨_, rfl⟩
  have hR' : R = if ac ≠ 0 then (ac, S) else if S.fused = true then (if S.left = 0 then (14, { S with off := true, fused := false }) else (0, Shf0.turnD { S with left := IntKind.i64.wrap (S.left - 1) } k F)) else (0, Shf0.turnD S k F) := by rw [hR, hac]; rfl
  rw [← hR]
  clear hR
  by_cases ha : ac = 0
  · rw [if_neg (by simp [ha])] at hR'
    have ha1 : (ac != 0) = false := by simp [ha]
    have HAC := Lib.hid hac; clear hac
    cases hf : S.fused with
    | false =>
      have hR2 : R = (0, Shf0.turnD S k F) := by rw [hR', if_neg (by rw [hf]; simp)]
      rw [hf] at c9
      subst hR2
      clear hR' ha
      go_enter Try.func91, Try.ntmps91
      go_wp2_with fail
      refine hacc.mono ?_; rintro e w1 ⟨rfl, rfl⟩
      rw [← HAC.out]
      go_wp2_with fail
      refine (HC.out L b.D b.st _ (Fr.refl _ _) hDK.out).mono ?_; rintro e w1 ⟨rfl, d1, f1⟩
      have D1 := Lib.hid d1; clear d1
      go_wp2_with fail
      go_ret
      exact ⟨rfl, ⟨_, _, _, _, HIN.out.turn HX.out f1 (hDK.out.turn D1.out (hF _) f1.size) (hF _)⟩, f1.mono (fun q _ hq => HFt.out q (.inr hq)), f1.cb hs104 (foot_not hDK.out HIN.out.head (by decide) (by decide))⟩
    | true =>
      rw [if_pos hf] at hR'
      rw [hf] at c9
      by_cases hl : S.left = 0
      · have hR2 : R = (14, { S with off := true, fused := false }) := by rw [hR', if_pos hl]
        subst hR2
        rw [hl] at c10
        clear hR' ha hl
        go_enter Try.func91, Try.ntmps91
        go_wp2_with fail
        refine hacc.mono ?_; rintro e w1 ⟨rfl, rfl⟩
        rw [← HAC.out]
        go_wp2_with (first
          | (refine im_store1 rfl 4 _ _ rfl (b := s) (j := 8) (v := .bool true) rfl rfl rfl (by kernel_rfl) HB.out (by simp [shelfC]) ?_; intro w2 b2 f2 z2; have B2 := Lib.hid b2; clear b2; clear z2)
          | (refine im_store1 rfl 4 _ _ rfl (b := s) (j := 9) (v := .bool false) rfl rfl rfl (by kernel_rfl) B2.out (by simp [shelfC]) ?_; intro w3 b3 f3 z3; have B3 := Lib.hid b3; clear b3; clear z3))
        go_ret
        exact ⟨rfl, ⟨_, _, _, _, HIN.out.setHead (S' := { S with off := true, fused := false }) (f2.trans f3) B3.out ⟨HIN.out.ok.cfg, HIN.out.ok.sec, HIN.out.ok.num, HIN.out.ok.bay, HIN.out.ok.len, HIN.out.ok.st, HIN.out.ok.img⟩ rfl rfl⟩, (f2.trans f3).mono (fun q _ hq => by rw [hq]; exact hOs), (cell_of_blk B3.out).trans c6.symm⟩
      · have hR2 : R = (0, Shf0.turnD { S with left := IntKind.i64.wrap (S.left - 1) } k F) := by rw [hR', if_neg hl]
        subst hR2
        have hl1 : (S.left == 0) = false := by simp [hl]
        obtain ⟨N, hN⟩ : ∃ N, N = IntKind.i64.wrap (S.left - 1) := ⟨_, rfl⟩
        rw [← hN]
        have HNN := Lib.hid hN
        have hN' := hN.symm
        clear hR' ha hl hN
        go_enter Try.func91, Try.ntmps91
        go_wp2_with fail
        refine hacc.mono ?_; rintro e w1 ⟨rfl, rfl⟩
        rw [← HAC.out]
        go_wp2_with (first
          | (refine im_store1 rfl 3 _ _ rfl (b := s) (j := 10) (v := .int .i64 N) rfl rfl rfl (by kernel_rfl) HB.out (by simp [shelfC]) ?_; intro w2 b2 f2 z2; have B2 := Lib.hid b2; clear b2; clear z2; have c62 : w2.cell? ⟨s, 6, none⟩ = some (.slice (some ⟨vb, 0, none⟩) bs.length cap) := cell_of_blk B2.out; have c02 := (f2.cb hvlt hvs).trans c0; have c12 := (f2.cb hvlt hvs).trans c1))
        have hin2 := HIN.out.setHead (S' := { S with left := N }) f2 B2.out ⟨HIN.out.ok.cfg, HIN.out.ok.sec, HIN.out.ok.num, HIN.out.ok.bay, HIN.out.ok.len, HIN.out.ok.st, HIN.out.ok.img⟩ rfl rfl
        have HIN2 := Lib.hid hin2; clear hin2
        have ff2 : Fr O w w2 := f2.mono fun q _ hq => by rw [hq]; exact hOs
        have hDK2 := Lib.hid (HIN2.out.kb _ (List.mem_of_getElem? HX.out))
        go_wp2_with fail
        refine (HC.out L b.D b.st _ ff2 hDK2.out).mono ?_; rintro e w3 ⟨rfl, d3, f3⟩
        have D3 := Lib.hid d3; clear d3
        go_wp2_with fail
        go_ret
        exact ⟨rfl, ⟨_, _, _, _, HIN2.out.turn HX.out f3 (hDK2.out.turn D3.out (hF _) f3.size) (hF _)⟩, ff2.trans (f3.mono fun q _ hq => HFt.out q (.inr hq)), (f3.cb (lt_of_blk B2.out) (foot_not hDK2.out B2.out (by decide) (by decide))).trans (c62.trans c6.symm)⟩
  · rw [if_pos ha] at hR'
    subst hR'
    have ha1 : (ac != 0) = true := by simp [ha]
    have HAC := Lib.hid hac; clear hac ha
    go_enter Try.func91, Try.ntmps91
    go_wp2_with fail
    refine hacc.mono ?_; rintro e w1 ⟨rfl, rfl⟩
    rw [← HAC.out]
    go_wp2_with fail
    go_ret
    exact ⟨rfl, HA.out, Fr.refl _ _, rfl⟩

end
end Go.Proofs.Ytmbkmfpnjpkakaa
