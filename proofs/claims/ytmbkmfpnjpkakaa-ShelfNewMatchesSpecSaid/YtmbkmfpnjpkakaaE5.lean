/- The reference disk: Rot. -/
import Derived.Test.YtmbkmfpnjpkakaaE4
namespace Go.Proofs.Ytmbkmfpnjpkakaa
open Go.RowKit Go.Im Go.Dsk0

theorem rotC_none {D : Dsk} {i b : Nat} {s : Sec} (hs : D[i]? = some s) (hc : s.cac = none) : rotC D i b = D := by
  apply List.ext_getElem?
  intro k
  unfold rotC
  rw [List.getElem?_modify]
  by_cases hik : i = k
  · subst hik
    rw [hs]
    obtain ⟨a, c, d⟩ := s
    simp only at hc
    subst hc
    simp
  · cases D[k]? <;> simp [hik]

/-- A sector's durable bytes laid anew. -/
theorem RefAt.dured {w w' : World} {g bl : Nat} {D : Dsk} {cap : Nat} {cs : Array Value} {i b : Nat} {dv : Value} (hk : Ok D) (hgl : g ≠ bl) (hg : w.heap[g]? = some (.cells #[.slice (some ⟨bl, 0, none⟩) D.length cap] 122 (0, 0))) (hc : D.length ≤ cap)
    (hb : w.heap[bl]? = some (.cells cs 124 (0, 0))) (hz : D.length * 4 ≤ cs.size) (hs : ∀ i s, D[i]? = some s → SecAt w cs i s) (hi : i < D.length)
    (f : Fr (fun k => k = bl) w w') (hb' : w'.heap[bl]? = some (.cells (cs.setIfInBounds (i * 4) dv) 124 (0, 0))) (hv : ∀ t, D[i]? = some t → BytesAt w' dv (flip t.dur b)) : RefAt w' g bl (rotD D i b) := by
  refine RefAt.sec (i := i) (hk.rotD i b) (by simp [rotD]) hgl hg hc hb hz hs f hb' (by simp) (fun k u hne hu => cells_other (t := 0) (by omega) hu (.inl (fun e => hne e.symm))) fun k s hk' => ?_
  rcases modify_get hk' with ⟨rfl, t, ht, rfl⟩ | h
  · left
    obtain ⟨⟨dv0, h1, h2⟩, ⟨cv0, h3, h4⟩, h5, h6⟩ := (hs _ t ht).fr f (noBytes_row hb (by decide))
    exact ⟨rfl, ⟨dv, cells_this (t := 0) (by omega) hi hz, hv t ht⟩, ⟨cv0, (cells_other (t := 0) (by omega) (by omega) (.inr (by omega))).trans h3, h4⟩, (cells_other (t := 0) (by omega) (by omega) (.inr (by omega))).trans h5, (cells_other (t := 0) (by omega) (by omega) (.inr (by omega))).trans h6⟩
  · exact .inr h

/-- A sector's cached bytes laid anew. -/
theorem RefAt.cacd {w w' : World} {g bl : Nat} {D : Dsk} {cap : Nat} {cs : Array Value} {i b : Nat} {cv : Value} (hk : Ok D) (hgl : g ≠ bl) (hg : w.heap[g]? = some (.cells #[.slice (some ⟨bl, 0, none⟩) D.length cap] 122 (0, 0))) (hc : D.length ≤ cap)
    (hb : w.heap[bl]? = some (.cells cs 124 (0, 0))) (hz : D.length * 4 ≤ cs.size) (hs : ∀ i s, D[i]? = some s → SecAt w cs i s) (hi : i < D.length)
    (f : Fr (fun k => k = bl) w w') (hb' : w'.heap[bl]? = some (.cells (cs.setIfInBounds (i * 4 + 1) cv) 124 (0, 0))) (hv : ∀ t c, D[i]? = some t → t.cac = some c → BytesAt w' cv (flip c b)) : RefAt w' g bl (rotC D i b) := by
  refine RefAt.sec (i := i) (hk.rotC i b) (by simp [rotC]) hgl hg hc hb hz hs f hb' (by simp) (fun k u hne hu => cells_other (by omega) hu (.inl (fun e => hne e.symm))) fun k s hk' => ?_
  rcases modify_get hk' with ⟨rfl, t, ht, rfl⟩ | h
  · left
    obtain ⟨⟨dv0, h1, h2⟩, ⟨cv0, h3, h4⟩, h5, h6⟩ := (hs _ t ht).fr f (noBytes_row hb (by decide))
    refine ⟨rfl, ⟨dv0, (cells_other (t := 1) (u := 0) (by omega) (by omega) (.inr (by omega))).trans h1, h2⟩, ⟨cv, cells_this (by omega) hi hz, fun c hc' => ?_⟩, ?_, (cells_other (by omega) (by omega) (.inr (by omega))).trans h6⟩
    · simp only at hc'
      cases hq : t.cac with
      | none => rw [hq] at hc'; cases hc'
      | some c0 => rw [hq] at hc'; injection hc' with hc'; subst hc'; exact hv t c0 ht hq
    · simp only [Option.isSome_map]
      exact (cells_other (by omega) (by omega) (.inr (by omega))).trans h5
  · exact .inr h

theorem rrot_no (g bl : Nat) (D : Dsk) (i b : Int) (w : World) (h : RefAt w g bl D) (hb : ¬ (has D i = true ∧ 0 ≤ b ∧ b < 512)) :
    Calls Try.prog 75 #[.pointer (some ⟨g, 0, none⟩), .int .i64 i, .int .i64 b] w fun e w' => e = .returned (.int .i64 1) ∧ w = w' := by
  obtain ⟨av, cap, c0, hg, hcap, hd⟩ := h.open_
  clear hd hg hcap h
  cases hi : has D i with
  | false =>
    have Hi := Lib.hid hi; clear hi hb
    go_enter Try.func75, Try.ntmps75
    go_wp2_with fail
    refine (ris_any g _ _ _ i w c0 false Hi.out).mono ?_; rintro e w' ⟨rfl, rfl⟩
    go_wp2_with fail
    go_ret
    exact ⟨rfl, rfl⟩
  | true =>
    have Hi := Lib.hid hi
    by_cases h0 : b < 0
    · clear hi hb
      go_enter Try.func75, Try.ntmps75
      go_wp2_with fail
      refine (ris_any g _ _ _ i w c0 true Hi.out).mono ?_; rintro e w' ⟨rfl, rfl⟩
      go_wp2_with fail
      go_ret
      exact ⟨rfl, rfl⟩
    · have h1 : 512 ≤ b := by
        have : ¬ (0 ≤ b ∧ b < 512) := fun h => hb ⟨hi, h⟩
        omega
      clear hi hb
      go_enter Try.func75, Try.ntmps75
      go_wp2_with fail
      refine (ris_any g _ _ _ i w c0 true Hi.out).mono ?_; rintro e w' ⟨rfl, rfl⟩
      go_wp2_with fail
      go_ret
      exact ⟨rfl, rfl⟩

set_option maxRecDepth 100000 in
set_option maxHeartbeats 2000000 in
theorem rrot_yes (g bl : Nat) (D : Dsk) (k b : Nat) (w : World) (h : RefAt w g bl D) (hk : k < D.length) (hb : b < 512) :
    Calls Try.prog 75 #[.pointer (some ⟨g, 0, none⟩), .int .i64 k, .int .i64 b] w fun e w' => e = .returned (.int .i64 0) ∧ RefAt w' g bl (rotC (rotD D k b) k b) ∧ Fr (fun q => q = bl) w w' := by
  obtain ⟨av, cap, c0, hg, hcap, hd⟩ := h.open_
  rcases hd with hd | ⟨rfl, hgl, cs, hbk, hsz, hs⟩
  · subst hd; simp at hk
  have hok := h.ok
  have hx : D[k]? = some D[k] := List.getElem?_eq_getElem hk
  obtain ⟨⟨dv, h1, h2⟩, ⟨cv, h3, h4⟩, h5, h6⟩ := hs k _ hx
  obtain ⟨bb, cp, bcs, bfr, rfl, hbc, hbb, hbcs⟩ := h2
  have hd64 := h.ok.dur _ (List.getElem_mem hk)
  have HBY := Lib.hid (show BytesAt w (.slice (some ⟨bb, 0, none⟩) D[k].dur.length cp) D[k].dur from ⟨bb, cp, bcs, bfr, rfl, hbc, hbb, hbcs⟩)
  rw [hd64] at HBY
  have c3 : w.cell? ⟨bl, k * 4, none⟩ = some (.slice (some ⟨bb, 0, none⟩) 64 cp) := by
    rw [hd64] at h1
    exact (cell_of_blk hbk).trans h1
  have c2 : w.cell? ⟨bl, k * 4 + 2, none⟩ = some (.bool D[k].cac.isSome) := (cell_of_blk hbk).trans h5
  have Hi := Lib.hid (show hasB D.length k = true from has_nat hk)
  have HB := Lib.hid hbk; clear hbk
  have HS := Lib.hid hs; clear hs
  have HG := Lib.hid hg; clear hg
  have HOK := Lib.hid hok; clear hok
  have HD64 := Lib.hid hd64; clear hd64
  have k0 : (0 : Int) ≤ k := by omega
  have k1 : (k : Int) < D.length := by omega
  have b0 : (0 : Int) ≤ b := by omega
  have b1 : (b : Int) < 512 := by omega
  have b2 : ¬ (b : Int) < 0 := by omega
  have hglt := lt_of_blk HG.out
  have hblt := lt_of_blk HB.out
  have hx' := Lib.hid hx
  have hcsz : k * 4 + 3 < cs.size := by omega
  clear h h1 h3 h4 h5 h6 hbb hbcs hbc hx
  go_enter Try.func75, Try.ntmps75
  go_wp2_with fail
  refine (ris_any g _ _ _ k w c0 true Hi.out).mono ?_; rintro e w' ⟨rfl, rfl⟩
  go_wp2_with fail
  refine wp_region_seq (fun W => W.cell? ⟨g, 0, none⟩ = some (.slice (some ⟨bl, 0, none⟩) D.length cap)) [0, 1, 2, 3, 4, 5, 6, 7, 8, 9, 10, 11, 13, 12, 14, 15, 16, 17] [12, 14, 17] (by kernel_rfl) (by kernel_rfl) (by kernel_rfl) c0 ?_
  simp only [pickOps, List.filterMap_cons, List.filterMap_nil, List.getElem?_toArray, List.getElem?_cons_zero, List.getElem?_cons_succ, Option.map_some]
  repeat (refine seqH_read (v := ?_) (by rfl) (by rfl) ?_ ?_; rotate_left; (focus (intro q s1; (try dsimp only at s1); go_simp; try with_reducible rfl)); simp only [Act.put, List.setIfInBounds_toArray, List.set_cons_zero, List.set_cons_succ])
  refine seqH_eff (by rfl) (by rfl) fun K hK => ?_
  unfold Oper.wp
  go_simp
  refine hK.out _ _ c0 ?_
  (try simp only [Act.put, List.setIfInBounds_toArray, List.set_cons_zero, List.set_cons_succ])
  refine seqH_eff (by rfl) (by rfl) fun K hK => ?_
  refine wp_callC 102 #[.slice (some ⟨bb, 0, none⟩) 64 cp, .int .i64 b] (by go_simp) (R := fun v w' => BytesAt w' v (flip D[k].dur b) ∧ Fr (fun _ => False) w w') ((turn_calls _ _ b w.drew HBY.out HD64.out hb).mono (by rintro e w' ⟨v, rfl, hv, hf⟩; exact ⟨_, rfl, hv, hf.undrew⟩)) ?_
  rintro v1 w1 ⟨hv1, f1⟩
  have HV1 := Lib.hid hv1; clear hv1
  refine hK.out _ _ ((f1.cb hglt (fun h => h)).trans c0) ?_
  simp only [Act.put, List.setIfInBounds_toArray, List.set_cons_zero, List.set_cons_succ]
  repeat (refine seqH_read (v := ?_) (by rfl) (by rfl) ?_ ?_; rotate_left; (focus (intro q s1; (try dsimp only at s1); go_simp; try with_reducible rfl)); simp only [Act.put, List.setIfInBounds_toArray, List.set_cons_zero, List.set_cons_succ])
  refine seqH_eff (by rfl) (by rfl) fun K hK => ?_
  have HB1 := Lib.hid ((f1.block bl hblt (fun h => h)).trans HB.out)
  obtain ⟨vb, vc, vcs, vfr, rfl, -, -, -⟩ := HV1.out
  rw [flip_length, HD64.out]
  refine wp_store1 70 _ _ rfl (v := .slice (some ⟨vb, 0, none⟩) 64 vc) rfl (by go_simp) rfl (by kernel_rfl) HB1.out (by omega) ?_
  intro w2 b2' f2 z2
  have HB2 := Lib.hid b2'; clear b2'; clear z2
  have ff2 : Fr (fun q => q = bl) w w2 := f1.none.trans f2
  have FF2 := Lib.hid ff2
  have c0' := (ff2.cb hglt hgl).trans c0
  have R2 := Lib.hid (RefAt.dured (b := b) HOK.out hgl HG.out hcap HB.out hsz HS.out hk ff2 HB2.out (fun t ht => by
    have e : D[k] = t := Option.some.inj (hx'.out.symm.trans ht)
    have := HV1.out
    rw [flip_length, HD64.out] at this
    rw [← e]
    exact this.fr f2 (noBytes_row HB1.out (by decide))))
  have hxr : (rotD D k b)[k]? = some { D[k] with dur := flip D[k].dur b } := by
    unfold rotD; rw [List.getElem?_modify, hx'.out]; simp
  have HXR := Lib.hid hxr; clear hxr
  refine hK.out _ _ c0' ?_
  refine seqH_nil ?_
  clear HBY c3 HB1 HB HS HV1 f1 f2 ff2 c0 hK c2
  obtain ⟨av2, cap2, c02, hg2, hcap2, hd2⟩ := R2.out.open_
  rcases hd2 with hd2 | ⟨rfl, -, cs2, hbk2, hsz2, hs2⟩
  · have h0 : (rotD D k b).length = D.length := by simp [rotD]
    rw [hd2] at h0; simp at h0; omega
  obtain ⟨⟨dv2, h1, h2⟩, ⟨cv2, h3, h4⟩, h5, h6⟩ := hs2 k _ HXR.out
  have hlr : (rotD D k b).length = D.length := by simp [rotD]
  rw [hlr] at c02 hg2 hcap2 hsz2
  have c22 : w2.cell? ⟨bl, k * 4 + 2, none⟩ = some (.bool D[k].cac.isSome) := (cell_of_blk hbk2).trans h5
  have HB3 := Lib.hid hbk2; clear hbk2
  have HS2 := Lib.hid hs2; clear hs2
  have HG2 := Lib.hid hg2; clear hg2
  clear h1 h2 h5 h6 c0'
  cases hq : D[k].cac with
  | none =>
    rw [hq] at c22
    have R3 := Lib.hid (show RefAt w2 g bl (rotC (rotD D k b) k b) from by rw [rotC_none HXR.out hq]; exact R2.out)
    clear h3 h4 hq R2
    go_wp2_with fail
    go_ret
    exact ⟨rfl, R3.out, FF2.out⟩
  | some c =>
    rw [hq] at c22
    have hc64 := HOK.out.cac _ (List.getElem_mem hk) c hq
    obtain ⟨cb, ccp, ccs, cfr, rfl, -, -, -⟩ := h4 c hq
    have HBY := Lib.hid (h4 c hq)
    rw [hc64] at h3 HBY
    have c1 : w2.cell? ⟨bl, k * 4 + 1, none⟩ = some (.slice (some ⟨cb, 0, none⟩) 64 ccp) := (cell_of_blk HB3.out).trans h3
    have HC64 := Lib.hid hc64
    have Hq := Lib.hid hq
    have hglt2 := lt_of_blk HG2.out
    have hblt2 := lt_of_blk HB3.out
    clear h3 h4 hq hc64
    go_wp2_with fail
    refine wp_region_seq (fun W => W.cell? ⟨g, 0, none⟩ = some (.slice (some ⟨bl, 0, none⟩) D.length cap2)) [0, 1, 2, 3, 4, 5, 6, 7, 8, 9, 10, 11, 13, 12, 14, 15, 16, 17] [12, 14, 17] (by kernel_rfl) (by kernel_rfl) (by kernel_rfl) c02 ?_
    simp only [pickOps, List.filterMap_cons, List.filterMap_nil, List.getElem?_toArray, List.getElem?_cons_zero, List.getElem?_cons_succ, Option.map_some]
    repeat (refine seqH_read (v := ?_) (by rfl) (by rfl) ?_ ?_; rotate_left; (focus (intro q s1; (try dsimp only at s1); go_simp; try with_reducible rfl)); simp only [Act.put, List.setIfInBounds_toArray, List.set_cons_zero, List.set_cons_succ])
    refine seqH_eff (by rfl) (by rfl) fun K hK => ?_
    unfold Oper.wp
    go_simp
    refine hK.out _ _ c02 ?_
    (try simp only [Act.put, List.setIfInBounds_toArray, List.set_cons_zero, List.set_cons_succ])
    refine seqH_eff (by rfl) (by rfl) fun K hK => ?_
    refine wp_callC 102 #[.slice (some ⟨cb, 0, none⟩) 64 ccp, .int .i64 b] (by go_simp) (R := fun v w' => BytesAt w' v (flip c b) ∧ Fr (fun _ => False) w2 w') ((turn_calls _ _ b w2.drew HBY.out HC64.out hb).mono (by rintro e w' ⟨v, rfl, hv, hf⟩; exact ⟨_, rfl, hv, hf.undrew⟩)) ?_
    rintro v3 w3 ⟨hv3, f3⟩
    have HV3 := Lib.hid hv3; clear hv3
    refine hK.out _ _ ((f3.cb hglt2 (fun h => h)).trans c02) ?_
    simp only [Act.put, List.setIfInBounds_toArray, List.set_cons_zero, List.set_cons_succ]
    repeat (refine seqH_read (v := ?_) (by rfl) (by rfl) ?_ ?_; rotate_left; (focus (intro q s1; (try dsimp only at s1); go_simp; try with_reducible rfl)); simp only [Act.put, List.setIfInBounds_toArray, List.set_cons_zero, List.set_cons_succ])
    refine seqH_eff (by rfl) (by rfl) fun K hK => ?_
    have HB4 := Lib.hid ((f3.block bl hblt2 (fun h => h)).trans HB3.out)
    obtain ⟨vb3, vc3, vcs3, vfr3, rfl, -, -, -⟩ := HV3.out
    rw [flip_length, HC64.out]
    refine wp_store1 70 _ _ rfl (v := .slice (some ⟨vb3, 0, none⟩) 64 vc3) rfl (by go_simp) rfl (by kernel_rfl) HB4.out (by omega) ?_
    intro w4 b4' f4 z4
    have HB5 := Lib.hid b4'; clear b4'; clear z4
    have ff4 : Fr (fun q => q = bl) w2 w4 := f3.none.trans f4
    have R4 := Lib.hid (RefAt.cacd (b := b) R2.out.ok hgl (by rw [hlr]; exact HG2.out) (by rw [hlr]; exact hcap2) HB3.out (by rw [hlr]; exact hsz2) HS2.out (by rw [hlr]; exact hk) ff4 HB5.out (fun t c' ht hc' => by
      have e := Option.some.inj (HXR.out.symm.trans ht)
      subst e
      have e2 : c = c' := Option.some.inj (Hq.out.symm.trans hc')
      subst e2
      have := HV3.out
      rw [flip_length, HC64.out] at this
      exact this.fr f4 (noBytes_row HB4.out (by decide))))
    refine hK.out _ _ ((ff4.cb hglt2 hgl).trans c02) ?_
    refine seqH_nil ?_
    have FF4 := Lib.hid (FF2.out.trans ff4)
    clear HBY HB4 HB3 HS2 HV3 f3 f4 ff4 hK
    go_wp2_with fail
    go_ret
    exact ⟨rfl, R4.out, FF4.out⟩

theorem rrot_calls (g bl : Nat) (D : Dsk) (i b : Int) (w : World) (h : RefAt w g bl D) :
    Calls Try.prog 75 #[.pointer (some ⟨g, 0, none⟩), .int .i64 i, .int .i64 b] w fun e w' => e = .returned (.int .i64 (rot D i b).1) ∧ RefAt w' g bl (rot D i b).2 ∧ Fr (fun q => q = bl) w w' := by
  by_cases hb : has D i = true ∧ 0 ≤ b ∧ b < 512
  · have hi' := has_iff.1 hb.1
    obtain ⟨k, rfl⟩ : ∃ k : Nat, i = k := ⟨i.toNat, by omega⟩
    obtain ⟨b, rfl⟩ : ∃ k : Nat, b = k := ⟨b.toNat, by omega⟩
    have e : rot D k b = (0, rotC (rotD D k b) k b) := by unfold rot; rw [if_pos hb]; rfl
    rw [e]
    exact rrot_yes g bl D k b w h (by omega) (by omega)
  · have e : rot D i b = (1, D) := by unfold rot; rw [if_neg hb]
    rw [e]
    refine (rrot_no g bl D i b w h hb).mono ?_
    rintro e w' ⟨rfl, rfl⟩
    exact ⟨rfl, h, Fr.refl _ _⟩

end Go.Proofs.Ytmbkmfpnjpkakaa
