/- The program's shelf: Insert. -/
import Derived.Test.YtmbkmfpnjpkakaaX1
namespace Go.Proofs.Ytmbkmfpnjpkakaa
open Go.RowKit Go.Im Go.Dsk0

section
variable {w : World} {O : Nat → Prop} {s : Nat} {S : Shf0.Shelf}

/-- The images' row opened. -/
theorem ShelfIn.image {bs : List (Loc × Shf0.Bay)} {im : List (Loc × Dsk)} {bv iv : Value} (h : ShelfIn w O s S bs im bv iv) : ∃ ia ic, iv = .slice ia im.length ic ∧ S.images.length = im.length ∧ ∀ (i : Nat) (x : Loc × Dsk), im[i]? = some x → ∃ ib, ia = some ⟨ib, 0, none⟩ ∧ w.cell? ⟨ib, i, none⟩ = some x.1.ptr ∧ ib < w.heap.size := by
  have hl : S.images.length = im.length := by rw [h.ei]; simp
  obtain ⟨h1, h2 | ⟨g, cap, cur, h2, h3, h4, h5, h6, h7, h8⟩⟩ := h.ri
  · refine ⟨none, 0, by rw [h2.1, h2.2], hl, fun i x hx => ?_⟩
    have := (List.getElem?_eq_some_iff.1 hx).1
    omega
  · refine ⟨_, cap, h2, hl, fun i x hx => ⟨g, rfl, ?_, lt_of_blk h4⟩⟩
    have hi := (List.getElem?_eq_some_iff.1 hx).1
    rw [cell_of_blk h4]
    have : (cur.toList.take (im.length * 1))[i]? = some (imC x) := by rw [h8, List.getElem?_map, hx]; rfl
    rw [List.getElem?_take_of_lt (by omega)] at this
    simpa [imC] using this

set_option maxRecDepth 100000 in
set_option maxHeartbeats 2000000 in
theorem insert_calls (h : ShelfAt w O s S) (d m : Int) : Calls Try.prog 58 #[.pointer (some ⟨s, 0, none⟩), .int .i64 d, .int .i64 m] w fun e w' => e = .returned (.int .i64 (Shf0.insert S d m).1) ∧ ShelfAt w' (grow O w w') s (Shf0.insert S d m).2 ∧ Fr O w w' := by
  have H := Lib.hid h
  obtain ⟨R, hR⟩ : ∃ R, R = Shf0.insert S d m := ⟨_, rfl⟩
  obtain ⟨wt, hwt⟩ : ∃ wt, wt = Shf0.want S d false 19 := ⟨_, rfl⟩
  have hR' : R = if wt = 1 then (1, S) else if m < 0 ∨ S.images.length ≤ m then (12, S) else if wt = 0 then (0, { S with bays := S.bays.set d.toNat ⟨(S.images[m.toNat]?).getD [], 1⟩ }) else (wt, S) := by rw [hR, hwt]; rfl
  rw [← hR]
  clear hR
  have HWT := Lib.hid hwt
  obtain ⟨bs, im, bv, iv, hin⟩ := h
  obtain ⟨ia, ic, hiv, hil, himg⟩ := hin.image
  have c7 : w.cell? ⟨s, 7, none⟩ = some (.slice ia im.length ic) := by rw [← hiv]; exact cell_of_blk hin.head
  by_cases h1 : wt = 1
  · rw [if_pos h1] at hR'
    subst hR'
    have hb1 : (wt == 1) = true := by simp [h1]
    have H1 := Lib.hid h1
    clear hin himg hiv hil c7 h1 hwt
    go_enter Try.func58, Try.ntmps58
    go_wp2_with fail
    refine (want_calls H.out d false 19).mono ?_; rintro e w1 ⟨rfl, rfl⟩
    rw [← HWT.out]
    go_wp2_with fail
    go_ret
    exact ⟨by rw [H1.out]; rfl, H.out.grow, Fr.refl _ _⟩
  rw [if_neg h1] at hR'
  have hb1 : (wt == 1) = false := by simp [h1]
  rw [hil] at hR'
  by_cases hm0 : m < 0
  · rw [if_pos (.inl hm0)] at hR'
    subst hR'
    clear hin himg hiv hil c7 h1 hwt
    go_enter Try.func58, Try.ntmps58
    go_wp2_with fail
    refine (want_calls H.out d false 19).mono ?_; rintro e w1 ⟨rfl, rfl⟩
    rw [← HWT.out]
    go_wp2_with fail
    go_ret
    exact ⟨rfl, H.out.grow, Fr.refl _ _⟩
  by_cases hm1 : (im.length : Int) ≤ m
  · rw [if_pos (.inr hm1)] at hR'
    subst hR'
    clear hin himg hiv hil h1 hwt
    go_enter Try.func58, Try.ntmps58
    go_wp2_with fail
    refine (want_calls H.out d false 19).mono ?_; rintro e w1 ⟨rfl, rfl⟩
    rw [← HWT.out]
    go_wp2_with fail
    go_ret
    exact ⟨rfl, H.out.grow, Fr.refl _ _⟩
  rw [if_neg (by omega)] at hR'
  by_cases h0 : wt = 0
  · rw [if_pos h0] at hR'
    obtain ⟨d0, d1, -⟩ := Shf0.want_zero (er := 19) (by decide) (hwt.symm.trans h0)
    obtain ⟨k, rfl⟩ : ∃ k : Nat, d = k := ⟨d.toNat, by omega⟩
    obtain ⟨i, rfl⟩ : ∃ i : Nat, m = i := ⟨m.toNat, by omega⟩
    rw [Int.toNat_natCast, Int.toNat_natCast] at hR'
    obtain ⟨⟨M, D⟩, hxi⟩ : ∃ x, im[i]? = some x := ⟨_, List.getElem?_eq_getElem (by omega)⟩
    obtain ⟨ib, rfl, ci, hibl⟩ := himg i _ hxi
    have hDi : S.images[i]? = some D := by rw [hin.ei, List.getElem?_map, hxi]; rfl
    rw [hDi] at hR'
    simp only [Option.getD_some] at hR'
    obtain ⟨L0, b0, hx, hsb, hk⟩ := hin.at (k := k) (by omega)
    obtain ⟨vb, cap, cur, hbv, hvb, hcz, hOv, -⟩ := hin.open_
    obtain ⟨hDok, hDl⟩ := hin.ok.img D (List.mem_of_getElem? hDi)
    have hok := hin.ok.setBay (k := k) (b := ⟨D, 1⟩) hDok (fun _ => hDl) (.inl rfl)
    have HOK := Lib.hid hok; clear hok
    have c6 : w.cell? ⟨s, 6, none⟩ = some (.slice (some ⟨vb, 0, none⟩) bs.length cap) := by rw [← hbv]; exact cell_of_blk hin.head
    have hslt := lt_of_blk hin.head
    have hvlt := lt_of_blk hvb
    have hDM := Lib.hid (hin.ki _ (List.mem_of_getElem? hxi))
    subst hR'
    have HB := Lib.hid hvb
    have HIN := Lib.hid hin
    have HBV := Lib.hid hbv
    have hbw : (wt == 0) = true := by simp [h0]
    have k0 : (0 : Int) ≤ k := by omega
    have k1 : (k : Int) < bs.length := by omega
    have i0 : (0 : Int) ≤ i := by omega
    have i1 : (i : Int) < im.length := by omega
    have hkc : k * 2 + 2 ≤ cur.size := by omega
    have H0 := Lib.hid h0
    simp only at ci hDM
    unfold Loc.ptr at ci
    clear hin hx hvb hbv hwt hsb h0 d1 himg hiv hil hxi hDi hDok hDl h1
    go_enter Try.func58, Try.ntmps58
    go_wp2_with fail
    refine (want_calls H.out (k : Int) false 19).mono ?_; rintro e w1 ⟨rfl, rfl⟩
    rw [← HWT.out]
    go_wp2_with fail
    have hS : (fun W : World => W.cell? ⟨s, 6, none⟩ = some (.slice (some ⟨vb, 0, none⟩) bs.length cap) ∧ W.cell? ⟨s, 7, none⟩ = some (.slice (some ⟨ib, 0, none⟩) im.length ic) ∧ W.cell? ⟨ib, i, none⟩ = some (.pointer (some ⟨M.g, 0, none⟩))) w.drew := ⟨c6, c7, ci⟩
    refine wp_region_seqF (fun W => W.cell? ⟨s, 6, none⟩ = some (.slice (some ⟨vb, 0, none⟩) bs.length cap) ∧ W.cell? ⟨s, 7, none⟩ = some (.slice (some ⟨ib, 0, none⟩) im.length ic) ∧ W.cell? ⟨ib, i, none⟩ = some (.pointer (some ⟨M.g, 0, none⟩))) [0, 1, 2, 3, 4, 5, 6, 7, 8, 9, 10, 11, 12, 13, 14, 15] [12, 15] 15 (by kernel_rfl) (by kernel_rfl) (by kernel_rfl) ?_
    simp only [pickOps, List.filterMap_cons, List.filterMap_nil, List.getElem?_toArray, List.getElem?_cons_zero, List.getElem?_cons_succ, Option.map_some]
    repeat (refine seqF_read (v := ?_) (by rfl) (by rfl) hS ?_ ?_; rotate_left; (focus (intro W hS; (try dsimp only at hS); obtain ⟨s1, s2, s3⟩ := hS; go_simp; try with_reducible rfl)); simp only [Act.put, List.setIfInBounds_toArray, List.set_cons_zero, List.set_cons_succ])
    refine seqF_eff (by rfl) (by rfl) fun K hK => ?_
    refine wp_callC 43 #[.pointer (some ⟨M.g, 0, none⟩)] (by go_simp) (R := fun v w' => ∃ L : Loc, v = .pointer (some ⟨L.g, 0, none⟩) ∧ DK w' L D ∧ (∀ q, L.has q → w.heap.size ≤ q) ∧ Fr (fun _ => False) w w') ((clone_calls M.g M.bd M.bc M.ba D w.drew (hDM.out.keep (Fr.refl _ w).drew).disk).mono (by
      rintro e w' ⟨g, bd, bc, ba, rfl, hd, hf, hbd, hbc, hba, hg⟩
      obtain ⟨L, hLg, hL, hLh⟩ := DK.of hd w.heap.size hg hbd hbc hba
      exact ⟨_, rfl, L, by rw [hLg], hL, hLh, hf.undrew⟩)) ?_
    rintro v x2 ⟨L, rfl, hL, hLh, g2⟩
    have hS2 : (fun W : World => W.cell? ⟨s, 6, none⟩ = some (.slice (some ⟨vb, 0, none⟩) bs.length cap) ∧ W.cell? ⟨s, 7, none⟩ = some (.slice (some ⟨ib, 0, none⟩) im.length ic) ∧ W.cell? ⟨ib, i, none⟩ = some (.pointer (some ⟨M.g, 0, none⟩))) x2 :=
      ⟨(g2.cb hslt (fun h => h)).trans c6, (g2.cb hslt (fun h => h)).trans c7, (g2.cb hibl (fun h => h)).trans ci⟩
    have hDL := Lib.hid hL; clear hL
    have hLH := Lib.hid hLh; clear hLh
    have HB2 := Lib.hid ((g2.block vb hvlt (fun h => h)).trans HB.out)
    refine hK.out _ _ (fun _ => hS2) ?_
    simp only [Act.put, List.setIfInBounds_toArray, List.set_cons_zero, List.set_cons_succ]
    repeat (refine seqF_read (v := ?_) (by rfl) (by rfl) hS2 ?_ ?_; rotate_left; (focus (intro W hS; (try dsimp only at hS); obtain ⟨s1, s2, s3⟩ := hS; go_simp; try with_reducible rfl)); simp only [Act.put, List.setIfInBounds_toArray, List.set_cons_zero, List.set_cons_succ])
    refine seqF_eff (by rfl) (by rfl) fun K hK => ?_
    refine wp_storeM 106 _ _ rfl (vs := #[.pointer (some ⟨L.g, 0, none⟩), .int .i64 1]) rfl rfl HB2.out hkc info106 (bay_one _ rfl _) ?_
    intro x3 b3 g3 z3
    have B3 := Lib.hid b3; clear b3 z3
    refine hK.out _ _ (fun h => absurd rfl h) ?_
    refine seqF_nil ?_
    have hfin := HIN.out.fill hk HBV.out HB.out g2 (L := L) (b := ⟨D, 1⟩) hDL.out hLH.out g3 B3.out HOK.out hOv
    have HFIN := Lib.hid hfin; clear hfin
    clear hK hS hS2 g2 g3 c6 c7 ci
    go_wp2_with fail
    go_ret
    exact ⟨by rw [H0.out]; rfl, HFIN.out.1, HFIN.out.2⟩
  · rw [if_neg h0] at hR'
    subst hR'
    have hbw : (wt == 0) = false := by simp [h0]
    clear hin himg hiv hil h1 hwt h0
    go_enter Try.func58, Try.ntmps58
    go_wp2_with fail
    refine (want_calls H.out d false 19).mono ?_; rintro e w1 ⟨rfl, rfl⟩
    rw [← HWT.out]
    go_wp2_with fail
    go_ret
    exact ⟨rfl, H.out.grow, Fr.refl _ _⟩
end
end Go.Proofs.Ytmbkmfpnjpkakaa
