/- The program's shelf: Remove. -/
import Derived.Test.YtmbkmfpnjpkakaaX3
namespace Go.Proofs.Ytmbkmfpnjpkakaa
open Go.RowKit Go.Im Go.Dsk0

section
variable {w : World} {O : Nat → Prop} {s : Nat} {S : Shf0.Shelf}

theorem turnD_set (k : Nat) (F : Dsk → Dsk) (b : Shf0.Bay) (l : List Dsk) : ({ Shf0.turnD S k F with bays := (Shf0.turnD S k F).bays.set k b, images := l } : Shf0.Shelf) = { S with bays := S.bays.set k b, images := l } := by
  have : (Shf0.turnD S k F).bays.set k b = S.bays.set k b := by
    apply List.ext_getElem?; intro i
    simp only [Shf0.turnD, List.getElem?_set, List.getElem?_modify, List.length_modify]
    by_cases hik : k = i
    · rw [if_pos hik, if_pos hik]
    · simp only [if_neg hik]; cases S.bays[i]? <;> rfl
  rw [this]; rfl

set_option maxRecDepth 100000 in
set_option maxHeartbeats 2000000 in
theorem remove_calls (h : ShelfAt w O s S) (d : Int) (hil : S.images.length ≤ 1000) : Calls Try.prog 57 #[.pointer (some ⟨s, 0, none⟩), .int .i64 d] w fun e w' => e = .returned (.tuple #[.int .i64 (Shf0.remove S d).1, .int .i64 (Shf0.remove S d).2.1]) ∧ ShelfAt w' (grow O w w') s (Shf0.remove S d).2.2 ∧ Fr O w w' := by
  have H := Lib.hid h
  obtain ⟨R, hR⟩ : ∃ R, R = Shf0.remove S d := ⟨_, rfl⟩
  obtain ⟨wt, hwt⟩ : ∃ wt, wt = Shf0.want S d true 15 := ⟨_, rfl⟩
  have hR' : R = if wt = 0 then ((S.images.length : Int), 0, { S with bays := S.bays.set d.toNat ⟨new 0, 2⟩, images := S.images ++ [cut (Shf0.bayD S d.toNat) []] }) else (0, wt, S) := by rw [hR, hwt]; rfl
  rw [← hR]
  clear hR
  by_cases h0 : wt = 0
  · rw [if_pos h0] at hR'
    obtain ⟨d0, d1, hst⟩ := Shf0.want_zero (er := 15) (by decide) (hwt.symm.trans h0)
    obtain ⟨k, rfl⟩ : ∃ k : Nat, d = k := ⟨d.toNat, by omega⟩
    rw [Int.toNat_natCast] at hR'
    obtain ⟨bs, im, bv, iv, hin⟩ := h
    obtain ⟨L, b, hx, hsb, hk⟩ := hin.at (k := k) (by omega)
    obtain ⟨vb, cap, cur, hbv, hvb, hcz, hOv, hcell⟩ := hin.open_
    obtain ⟨ia, ic, hiv, hil', himg⟩ := hin.image
    have cL := (hcell k _ hx).1
    simp only [Loc.ptr] at cL
    have hb1 : b.st = 1 := by
      have := state_at hin hx
      simp only at this
      rw [this] at hst
      simpa using hst
    have hbd := bayD_at hin hx
    simp only at hbd
    rw [hbd] at hR'
    clear hbd hst himg hcell
    have hDb := hin.ok.bay b (List.mem_of_getElem? hsb)
    have hDl := hin.ok.len b (List.mem_of_getElem? hsb) (by omega)
    have hcl : (cut b.D []).length = b.D.length := by simp [cut, unarm, settle_length]
    have hcok : Dsk0.Ok (cut b.D []) := hDb.cut []
    have hok0 := hin.ok.setBay (k := k) (b := ⟨new 0, 2⟩) (Dsk0.Ok.new _) (fun h => absurd rfl h) (.inr (.inl rfl))
    have hok : Shf0.Ok { S with bays := S.bays.set k ⟨new 0, 2⟩, images := S.images ++ [cut b.D []] } := ⟨hok0.cfg, hok0.sec, hok0.num, hok0.bay, hok0.len, hok0.st, fun D hD => by
      rcases List.mem_append.1 hD with hD | hD
      · exact hin.ok.img D hD
      · have e : D = cut b.D [] := by simpa using hD
        subst e
        exact ⟨hcok, by rw [hcl]; exact hDl⟩⟩
    have HOK := Lib.hid hok; clear hok hok0
    obtain ⟨n, hn⟩ : ∃ n, n = im.length := ⟨_, rfl⟩
    have hn1 : n ≤ 1000 := by omega
    have c6 : w.cell? ⟨s, 6, none⟩ = some (.slice (some ⟨vb, 0, none⟩) bs.length cap) := by rw [← hbv]; exact cell_of_blk hin.head
    have c7 : w.cell? ⟨s, 7, none⟩ = some (.slice ia n ic) := by rw [hn, ← hiv]; exact cell_of_blk hin.head
    have hslt := lt_of_blk hin.head
    have hvlt := lt_of_blk hvb
    have hsi : S.images.length = n := by omega
    rw [hsi] at hR'
    subst hR'
    have hDK := hin.kb _ (List.mem_of_getElem? hx)
    simp only at hDK
    have hsv : ¬ s = vb := fun e => by subst e; exact absurd (cells_type hin.head hvb) (by decide)
    have hsL : ¬ L.has s := hDK.not hin.head (by decide) (by decide)
    have hvL : ¬ L.has vb := hDK.not hvb (by decide) (by decide)
    have HB := Lib.hid hvb
    have HIN := Lib.hid hin
    have HX := Lib.hid hx
    have HBV := Lib.hid hbv
    have HIV := Lib.hid hiv
    have HWT := Lib.hid hwt
    have HDK := Lib.hid hDK
    have HN := Lib.hid hn
    have hbw : (wt == 0) = true := by simp [h0]
    have k0 : (0 : Int) ≤ k := by omega
    have k1 : (k : Int) < bs.length := by omega
    have hkc : k * 2 + 2 ≤ cur.size := by omega
    have H0 := Lib.hid h0
    have HST := Lib.hid hb1
    clear hin hx hvb hbv hiv hwt hsb h0 d1 hDK hn hil' hil hb1 hDb hDl hcl hcok hsi
    obtain ⟨i0, hi, hy0, hy1, hy2⟩ := info_parts info41'
    go_enter Try.func57, Try.ntmps57
    go_wp2_with fail
    refine (want_calls H.out (k : Int) true 15).mono ?_; rintro e w1 ⟨rfl, rfl⟩
    rw [← HWT.out]
    go_wp2_with fail
    refine (cut_calls L.g L.bd L.bc L.ba b.D w HDK.out.disk (.slice none 0 0) [] ⟨none, 0, rfl, by simp, .inl rfl⟩).mono ?_; rintro e w1 ⟨rfl, hd1, f1⟩
    have a6 := (f1.cb hslt (fun hq => hsL (.inr hq))).trans c6
    have a7 := (f1.cb hslt (fun hq => hsL (.inr hq))).trans c7
    have aL := (f1.cb hvlt (fun hq => hvL (.inr hq))).trans cL
    have hslt1 := Nat.lt_of_lt_of_le hslt f1.size
    have hvlt1 := Nat.lt_of_lt_of_le hvlt f1.size
    have hcl : (cut b.D []).length = b.D.length := by simp [cut, unarm, settle_length]
    have hdk1 : DK w1 L (cut b.D []) := HDK.out.turn hd1 hcl f1.size
    have hin1 := HIN.out.turn HX.out (F := fun D => cut D []) f1 hdk1 hcl
    have hbl1 : (bs.modify k fun x => (x.1, { x.2 with D := cut x.2.D [] })).length = bs.length := by simp
    have hx1 : (bs.modify k fun x => (x.1, { x.2 with D := cut x.2.D [] }))[k]? = some (L, { b with D := cut b.D [] }) := by rw [List.getElem?_modify, HX.out]; simp
    have hvb1 := (f1.block vb hvlt (fun hq => hvL (.inr hq))).trans HB.out
    have hh1 := hin1.head
    have hri1 := hin1.ri
    rw [HIV.out, ← HN.out] at hri1
    rw [HIV.out, ← HN.out] at hh1
    have hns1 : ¬ some s = (Value.slice ia n ic).ownBlock := own_not hri1 hh1 (by decide)
    have hnv1 : ¬ some vb = (Value.slice ia n ic).ownBlock := own_not hri1 hvb1 (by decide)
    have HIN1 := Lib.hid hin1; clear hin1
    have HX1 := Lib.hid hx1; clear hx1
    have HB1 := Lib.hid hvb1; clear hvb1
    have HH1 := Lib.hid hh1; clear hh1
    have HRI := Lib.hid hri1; clear hri1
    have HBL := Lib.hid hbl1; clear hbl1
    have HF1 := Lib.hid f1; clear f1
    clear hd1 hdk1 hcl c6 c7 cL
    go_wp2_with fail
    have hS : (fun W : World => W.cell? ⟨s, 6, none⟩ = some (.slice (some ⟨vb, 0, none⟩) bs.length cap) ∧ W.cell? ⟨s, 7, none⟩ = some (.slice ia n ic) ∧ W.cell? ⟨vb, k * 2, none⟩ = some (.pointer (some ⟨L.g, 0, none⟩))) w1.drew := ⟨a6, a7, aL⟩
    refine wp_region_seqF (fun W => W.cell? ⟨s, 6, none⟩ = some (.slice (some ⟨vb, 0, none⟩) bs.length cap) ∧ W.cell? ⟨s, 7, none⟩ = some (.slice ia n ic) ∧ W.cell? ⟨vb, k * 2, none⟩ = some (.pointer (some ⟨L.g, 0, none⟩))) [0, 1, 2, 3, 4, 5, 6, 7, 8, 9, 10, 11, 12, 13, 14, 15, 16, 17] [13, 14, 17] 17 (by kernel_rfl) (by kernel_rfl) (by kernel_rfl) ?_
    simp only [pickOps, List.filterMap_cons, List.filterMap_nil, List.getElem?_toArray, List.getElem?_cons_zero, List.getElem?_cons_succ, Option.map_some]
    repeat (refine seqF_read (v := ?_) (by rfl) (by rfl) hS ?_ ?_; rotate_left; (focus (intro W hS; (try dsimp only at hS); obtain ⟨s1, s2, s3⟩ := hS; go_simp; try with_reducible rfl)); simp only [Act.put, List.setIfInBounds_toArray, List.set_cons_zero, List.set_cons_succ])
    refine seqF_eff (by rfl) (by rfl) fun K hK => ?_
    unfold Oper.wp
    go_simp
    obtain ⟨x2, hx2⟩ : ∃ x2, x2 = (w1.alloc (.cells #[.pointer (some ⟨L.g, 0, none⟩)] 41)).drew := ⟨_, rfl⟩
    have b2 : x2.heap[w1.heap.size]? = some (.cells #[.pointer (some ⟨L.g, 0, none⟩)] 41 (0, 0)) := by rw [hx2]; exact heap_alloc_new w1 _
    have g2 : Fr (fun _ => False) w1 x2 := by rw [hx2]; exact ((Fr.refl _ w1).alloc _).drew
    rw [← hx2]
    clear hx2
    have hS2 : (fun W : World => W.cell? ⟨s, 6, none⟩ = some (.slice (some ⟨vb, 0, none⟩) bs.length cap) ∧ W.cell? ⟨s, 7, none⟩ = some (.slice ia n ic) ∧ W.cell? ⟨vb, k * 2, none⟩ = some (.pointer (some ⟨L.g, 0, none⟩))) x2 :=
      ⟨(g2.cb hslt1 (fun h => h)).trans a6, (g2.cb hslt1 (fun h => h)).trans a7, (g2.cb hvlt1 (fun h => h)).trans aL⟩
    refine hK.out _ _ (fun _ => hS2) ?_
    refine seqF_eff (by rfl) (by rfl) fun K hK => ?_
    refine wp_append_pl _ _ 102 rfl 0 mt102 hi hy0 hy1 hy2 rfl (by decide) rfl (row_keep' HRI.out g2) rfl b2 rfl (by simp [Value.oneCell']) (by unfold maxLen; omega) (by omega) (Nat.zero_le _) ?_
    intro v' x3 o3 gr3 p3
    have g3 : Fr (fun q => some q = (Value.slice ia n ic).ownBlock) x2 x3 := Fr.of_grown gr3
    have hslt2 := Nat.lt_of_lt_of_le hslt1 g2.size
    have hvlt2 := Nat.lt_of_lt_of_le hvlt1 g2.size
    have hS3 : (fun W : World => W.cell? ⟨s, 6, none⟩ = some (.slice (some ⟨vb, 0, none⟩) bs.length cap) ∧ W.cell? ⟨s, 7, none⟩ = some (.slice ia n ic) ∧ W.cell? ⟨vb, k * 2, none⟩ = some (.pointer (some ⟨L.g, 0, none⟩))) x3 :=
      ⟨(g3.cb hslt2 hns1).trans hS2.1, (g3.cb hslt2 hns1).trans hS2.2.1, (g3.cb hvlt2 hnv1).trans hS2.2.2⟩
    have HH3 := Lib.hid ((g3.block _ hslt2 hns1).trans ((g2.block _ hslt1 (fun h => h)).trans HH1.out))
    have f12 : Fr (fun q => some q = (Value.slice ia n ic).ownBlock) w1 x3 := g2.no.trans g3
    have O3 := Lib.hid o3; clear o3
    have P3 := Lib.hid (fun q (hq : some q = v'.ownBlock) => (p3 q hq).imp id fun hh => Nat.le_trans g2.size hh); clear p3
    have HF12 := Lib.hid f12; clear f12
    have HB2 := Lib.hid b2; clear b2
    have hv1 : v'.oneCell' = true := by
      obtain ⟨-, h2 | ⟨gb, vc, cur', h2, -⟩⟩ := O3.out
      · rw [h2.1]; rfl
      · rw [h2]; rfl
    have hvs : ∃ va vc, v' = .slice va (n + 1) vc := by
      obtain ⟨-, h2 | ⟨gb, vc, cur', h2, -⟩⟩ := O3.out
      · omega
      · exact ⟨_, _, h2⟩
    obtain ⟨va, vc, hv'⟩ := hvs
    subst hv'
    refine hK.out _ _ (fun _ => hS3) ?_
    simp only [Act.put, List.setIfInBounds_toArray, List.set_cons_zero, List.set_cons_succ]
    repeat (refine seqF_read (v := ?_) (by rfl) (by rfl) hS3 ?_ ?_; rotate_left; (focus (intro W hS; (try dsimp only at hS); obtain ⟨s1, s2, s3⟩ := hS; go_simp; try with_reducible rfl)); simp only [Act.put, List.setIfInBounds_toArray, List.set_cons_zero, List.set_cons_succ])
    refine seqF_eff (by rfl) (by rfl) fun K hK => ?_
    refine wp_store1 102 _ _ rfl (v := .slice va (n + 1) vc) rfl rfl hv1 (by kernel_rfl) HH3.out (by simp [shelfC]) ?_
    intro x4 b4 g4 z4
    have B4 := Lib.hid b4; clear b4 z4
    refine hK.out _ _ (fun h => absurd rfl h) ?_
    refine seqF_nil ?_
    have hslt3 := Nat.lt_of_lt_of_le hslt2 g3.size
    have hvlt3 := Nat.lt_of_lt_of_le hvlt2 g3.size
    have hslt4 := Nat.lt_of_lt_of_le hslt3 g4.size
    have hvlt4 := Nat.lt_of_lt_of_le hvlt3 g4.size
    have d6 : x4.cell? ⟨s, 6, none⟩ = some (.slice (some ⟨vb, 0, none⟩) bs.length cap) := by
      rw [cell_of_blk B4.out]
      have := hS3.1
      rw [cell_of_blk HH3.out] at this
      rw [Array.getElem?_setIfInBounds_ne (by decide)]
      exact this
    have d7 : x4.cell? ⟨s, 7, none⟩ = some (.slice va (n + 1) vc) := by
      rw [cell_of_blk B4.out]
      rw [Array.getElem?_setIfInBounds_self_of_lt (by simp [shelfC])]
    have HB4 := Lib.hid ((g4.block vb hvlt3 (fun e => hsv e.symm)).trans ((g3.block vb hvlt2 hnv1).trans ((g2.block vb hvlt1 (fun h => h)).trans HB1.out)))
    have G4 := Lib.hid g4
    clear hK hS hS2 hS3 a6 a7 aL g2 g3 g4 gr3 hns1 hnv1 hv1
    go_wp2_with fail
    have hS : (fun W : World => W.cell? ⟨s, 6, none⟩ = some (.slice (some ⟨vb, 0, none⟩) bs.length cap)) x4.drew := d6
    refine wp_region_seqF (fun W => W.cell? ⟨s, 6, none⟩ = some (.slice (some ⟨vb, 0, none⟩) bs.length cap)) [0, 1, 2, 3, 4, 5, 6, 7, 8] [5, 8] 8 (by kernel_rfl) (by kernel_rfl) (by kernel_rfl) ?_
    simp only [pickOps, List.filterMap_cons, List.filterMap_nil, List.getElem?_toArray, List.getElem?_cons_zero, List.getElem?_cons_succ, Option.map_some]
    repeat (refine seqF_read (v := ?_) (by rfl) (by rfl) hS ?_ ?_; rotate_left; (focus (intro W hS; (try dsimp only at hS); go_simp; try with_reducible rfl)); simp only [Act.put, List.setIfInBounds_toArray, List.set_cons_zero, List.set_cons_succ])
    refine seqF_eff (by rfl) (by rfl) fun K hK => ?_
    refine wp_callC 24 #[.int .i64 0] (by go_simp) (R := fun v w' => ∃ L : Loc, v = .pointer (some ⟨L.g, 0, none⟩) ∧ DK w' L (new 0) ∧ (∀ q, L.has q → x4.heap.size ≤ q) ∧ Fr (fun _ => False) x4 w') ((new_calls 0 x4.drew).mono (by
      rintro e w' ⟨g, bd, bc, ba, rfl, hd, hf, hbd, hbc, hba, hg⟩
      obtain ⟨L, hLg, hL, hLh⟩ := DK.of hd x4.heap.size hg hbd hbc hba
      exact ⟨_, rfl, L, by rw [hLg], hL, hLh, hf.undrew⟩)) ?_
    rintro v x5 ⟨L', rfl, hL, hLh, g5⟩
    have hS5 : (fun W : World => W.cell? ⟨s, 6, none⟩ = some (.slice (some ⟨vb, 0, none⟩) bs.length cap)) x5 := (g5.cb hslt4 (fun h => h)).trans d6
    have hDL := Lib.hid hL; clear hL
    have hLH := Lib.hid hLh; clear hLh
    have HB5 := Lib.hid ((g5.block vb hvlt4 (fun h => h)).trans HB4.out)
    have d75 := (g5.cb hslt4 (fun h => h)).trans d7
    refine hK.out _ _ (fun _ => hS5) ?_
    simp only [Act.put, List.setIfInBounds_toArray, List.set_cons_zero, List.set_cons_succ]
    repeat (refine seqF_read (v := ?_) (by rfl) (by rfl) hS5 ?_ ?_; rotate_left; (focus (intro W hS; (try dsimp only at hS); go_simp; try with_reducible rfl)); simp only [Act.put, List.setIfInBounds_toArray, List.set_cons_zero, List.set_cons_succ])
    refine seqF_eff (by rfl) (by rfl) fun K hK => ?_
    refine wp_storeM 106 _ _ rfl (vs := #[.pointer (some ⟨L'.g, 0, none⟩), .int .i64 2]) rfl rfl HB5.out hkc info106 (bay_one _ rfl _) ?_
    intro x6 b6 g6 z6
    have B6 := Lib.hid b6; clear b6 z6
    have d76 := (g6.cb (Nat.lt_of_lt_of_le hslt4 g5.size) hsv).trans d75
    refine hK.out _ _ (fun h => absurd rfl h) ?_
    refine seqF_nil ?_
    have hfin := ShelfIn.moved HIN1.out HX1.out (cap := cap) (by rw [HBL.out]; exact HBV.out) HB1.out (by rw [HIV.out, ← HN.out]; exact HF12.out) (by rw [← HN.out]; exact O3.out) (by rw [HIV.out, ← HN.out]; exact P3.out) G4.out B4.out g5 (L' := L') (b' := ⟨new 0, 2⟩) hDL.out hLH.out g6 B6.out (by rw [turnD_set]; exact HOK.out)
    rw [turnD_set] at hfin
    have HFIN := Lib.hid hfin; clear hfin
    clear hK hS hS5 d6 d7 d75 g5 g6
    go_wp2_with fail
    go_ret2
    have hs1 := HF1.out.size
    refine ⟨rfl, HFIN.out.1.mono (fun q hq => hq.imp id fun hq => ⟨Nat.le_trans hs1 hq.1, hq.2⟩) (fun q hq => hq.elim (fun hq => HFIN.out.1.olt (.inl hq)) (·.2)), (HF1.out.mono fun q _ hq => foot_in HIN.out HX.out q (.inr hq)).trans HFIN.out.2⟩
  · rw [if_neg h0] at hR'
    subst hR'
    have HWT := Lib.hid hwt
    have hbw : (wt == 0) = false := by simp [h0]
    clear hwt h0 h
    go_enter Try.func57, Try.ntmps57
    go_wp2_with fail
    refine (want_calls H.out d true 15).mono ?_; rintro e w1 ⟨rfl, rfl⟩
    rw [← HWT.out]
    go_wp2_with fail
    go_ret2
    exact ⟨rfl, H.out.grow, Fr.refl _ _⟩
end
end Go.Proofs.Ytmbkmfpnjpkakaa
