/- The program's shelf: Mount. -/
import Derived.Test.YtmbkmfpnjpkakaaS14
import Derived.Test.YtmbkmfpnjpkakaaL0
namespace Go.Proofs.Ytmbkmfpnjpkakaa
open Go.RowKit Go.Im Go.Dsk0

theorem cut_len (D : Dsk) (ps : List Int) : (Dsk0.cut D ps).length = D.length := by simp [Dsk0.cut, unarm, settle_length]

section
variable {w : World} {O : Nat → Prop} {s : Nat} {S : Shf0.Shelf}

set_option maxRecDepth 100000 in
set_option maxHeartbeats 2000000 in
theorem mount_calls (h : ShelfAt w O s S) (pa : Option Addr) (pc : Nat) (ps : List Int) (hp : IntsAt w (.slice pa ps.length pc) ps (fun b => ¬ O b)) (hpc : ps.length ≤ pc) :
    Calls Try.prog 47 #[.pointer (some ⟨s, 0, none⟩), .slice pa ps.length pc] w fun e w' => e = .returned (.tuple #[]) ∧ ShelfAt w' O s (Shf0.mount S ps) ∧ Fr O w w' := by
  obtain ⟨bs, im, bv, iv, hin⟩ := h
  obtain ⟨hp1, hp2, hp3⟩ := hin.pos
  obtain ⟨vb, cap, cur, rfl, hvb, hcz, hOv, hcell⟩ := hin.open_
  have c6 : w.cell? ⟨s, 6, none⟩ = some (.slice (some ⟨vb, 0, none⟩) bs.length cap) := cell_of_blk hin.head
  have HIN := Lib.hid hin
  have HP := Lib.hid hp; clear hp
  have HSB := Lib.hid (show S.bays.length = bs.length from hp3.symm)
  obtain ⟨nb, hnb⟩ : ∃ nb, nb = bs.length := ⟨_, rfl⟩
  rw [← hnb] at c6 hp1 hp2 HSB
  have HIN' := Lib.hid (show ∃ bs im iv, bs.length = nb ∧ ShelfIn w O s S bs im (.slice (some ⟨vb, 0, none⟩) nb cap) iv from ⟨bs, im, iv, hnb.symm, by rw [hnb]; exact hin⟩)
  clear hcell hin hvb hcz hp3 HIN hnb
  go_enter Try.func47, Try.ntmps47
  go_wp2_with fail
  go_loopg [1, 12] nb (fun m t1 t wr => ∃ (k : Nat) (T : Shf0.Shelf) (qs : List Int) (qa : Option Addr) (qc : Nat), m + k = nb ∧ t = .int .i64 k ∧ t1 = .slice qa qs.length qc ∧ qs.length ≤ qc ∧ IntsAt wr (.slice qa qs.length qc) qs (fun b => ¬ O b) ∧ (∃ bs im iv, bs.length = nb ∧ ShelfIn wr O s T bs im (.slice (some ⟨vb, 0, none⟩) nb cap) iv) ∧ T = { S with bays := T.bays } ∧ Shf0.cutBays S.bays ps = T.bays.take k ++ Shf0.cutBays (T.bays.drop k) qs ∧ Fr O w wr)
  case atStart => exact ⟨0, S, ps, pa, pc, rfl, rfl, rfl, hpc, HP.out, HIN'.out, rfl, by simp, Fr.refl _ _⟩
  case round =>
    obtain ⟨k, T, qs, qa, qc, hm, rfl, rfl, hqc, hq, hT, hTe, hcut, hfr⟩ := hrel
    have HM := Lib.hid hm; clear hm
    have HQ := Lib.hid hq; clear hq
    have HTE := Lib.hid hTe; clear hTe
    have HCUT := Lib.hid hcut; clear hcut
    obtain ⟨bs', im', iv', hbl, hin⟩ := hT
    have HIN := Lib.hid hin
    have HBL := Lib.hid hbl
    have hrs := hfr.size
    have hTl : T.bays.length = nb := by rw [hin.eb]; simp [hbl]
    have HTL := Lib.hid hTl
    by_cases hk : k < nb
    · obtain ⟨L, b, hx, hsb, hkb⟩ := hin.at (k := k) (by omega)
      obtain ⟨vb2, cap2, cur2, hbv2, hvb2, hcz2, hOv2, hcell⟩ := hin.open_
      have hve : vb2 = vb := by
        injection hbv2 with e1
        injection e1 with e1
        injection e1 with e1
        exact e1.symm
      subst hve
      clear hbv2
      obtain ⟨q0, q1⟩ := hcell k _ hx
      simp only at q0 q1
      obtain ⟨st, hst⟩ : ∃ st, st = b.st := ⟨_, rfl⟩
      rw [← hst] at q1
      have k0 : (0 : Int) ≤ k := by omega
      have k1 : (k : Int) < nb := by omega
      have HX := Lib.hid hx
      have HSBK := Lib.hid hsb
      have HST := Lib.hid hst
      have hDK := Lib.hid (hin.kb _ (List.mem_of_getElem? hx))
      have hvlt := lt_of_blk hvb2
      have hDl : b.D.length ≤ 65536 := (hin.ok.bay b (List.mem_of_getElem? hsb)).len
      clear hcell hx hsb hst hvb2 hcz2 hin hbl hTl hkb
      by_cases h1 : st = 1
      · have hb1 : (st == 1) = true := by simp [h1]
        have H1 := Lib.hid (HST.out.symm.trans h1)
        clear h1
        obtain ⟨P, hP⟩ : ∃ P, P = (pend b.D).length := ⟨_, rfl⟩
        have HPE := Lib.hid hP
        obtain ⟨n, hn⟩ : ∃ n, n = min P qs.length := ⟨_, rfl⟩
        have hnq : n ≤ qs.length := by omega
        have hmin : min (P : Int) (qs.length : Int) = (n : Int) := by omega
        clear hP hn
        have hpl : P ≤ 65536 := by
          rw [HPE.out]; unfold pend
          exact Nat.le_trans (List.length_filter_le _ _) (by simpa using hDl)
        have htk : qs.take n = qs.take P := by
          by_cases hle : P ≤ qs.length
          · rw [show n = P by omega]
          · rw [List.take_of_length_le (by omega), List.take_of_length_le (by omega)]
        have hdp : qs.drop n = qs.drop P := by
          by_cases hle : P ≤ qs.length
          · rw [show n = P by omega]
          · rw [List.drop_of_length_le (by omega), List.drop_of_length_le (by omega)]
        have HTK := Lib.hid htk
        have HDP := Lib.hid hdp
        clear htk hdp
        unfold Loc.ptr at q0
        go_wp2_with (first
          | (refine im_alloc_row rfl 106 rfl (zero106 _) ?_; intro w3 b3 f3 z3; have B3 := Lib.hid b3; clear b3; have Z3 := Lib.hid z3; clear z3)
          | (refine im_store_row rfl 106 _ _ rfl (vs := #[.pointer (some ⟨L.g, 0, none⟩), .int .i64 st]) rfl rfl B3.out rfl info106 (bay_one _ rfl _) ?_; intro w4 b4 f4 z4; have p0 : w4.cell? ⟨wr.heap.size, 0, none⟩ = some (.pointer (some ⟨L.g, 0, none⟩)) := cell_of_blk b4; have p1 : w4.cell? ⟨wr.heap.size, 1, none⟩ = some (.int .i64 st) := cell_of_blk b4; have hl4 := lt_of_blk b4; clear b4; have Z4 := Lib.hid z4; clear z4))
        have hz3 := Z3.out
        have hz4 := Z4.out
        have ff : Fr (fun q => q = wr.heap.size) wr w4 := f3.no.trans f4
        have hno : ∀ q, O q → ¬ q = wr.heap.size := fun q hq e => by have := HIN.out.olt q hq; omega
        have hDK4 := Lib.hid (hDK.out.fr ff (fun q hq => hno q (foot_in HIN.out HX.out q hq)))
        refine (pending_calls L.g L.bd L.bc L.ba b.D w4 hDK4.out.disk).mono ?_; rintro e w5 ⟨v, rfl, hrow, f5⟩
        have hv : ∃ va vc, v = .slice va P vc := by
          have hll : (pendI b.D).length = P := by rw [HPE.out]; simp [pendI]
          obtain ⟨-, h2 | ⟨gb, vc, cur, h2, -⟩⟩ := hrow
          · exact ⟨none, 0, by rw [h2.1]; congr 1; omega⟩
          · exact ⟨_, vc, by rw [h2, hll]⟩
        obtain ⟨va, vc, rfl⟩ := hv
        clear hrow
        have p05 := (f5.cb hl4 (fun h => h)).trans p0
        have ff5 : Fr (fun q => q = wr.heap.size) wr w5 := ff.trans f5.no
        have hIN5 := Lib.hid (HIN.out.fr ff5 hno)
        have hQ5 := Lib.hid (HQ.out.fr ff5 (fun b hb _ e => by omega))
        have hDK5 := Lib.hid (hDK4.out.keep f5)
        have hl5 := Nat.lt_of_lt_of_le hl4 f5.size
        have FF5 := Lib.hid ff5
        clear p0 p1 q0 q1 f3 f4 f5 ff ff5
        go_wp2_with fail
        obtain ⟨⟨c1, hs1, hi1⟩, ⟨a2, c2, hs2, hi2, hc2⟩⟩ := ints_cut hQ5.out n hnq hqc
        have hI1 := Lib.hid hi1; clear hi1
        have hI2 := Lib.hid hi2; clear hi2
        refine wp_region_seq (fun W => W.cell? ⟨wr.heap.size, 0, none⟩ = some (.pointer (some ⟨L.g, 0, none⟩))) [0, 1, 2, 3, 4, 5] [5] (by kernel_rfl) (by kernel_rfl) (by kernel_rfl) p05 ?_
        simp only [pickOps, List.filterMap_cons, List.filterMap_nil, List.getElem?_toArray, List.getElem?_cons_zero, List.getElem?_cons_succ, Option.map_some]
        repeat (refine seqH_read (v := ?_) (by rfl) (by rfl) ?_ ?_; rotate_left; (focus (intro W hS; (try dsimp only at hS); go_simp; try with_reducible rfl)); simp only [Act.put, List.setIfInBounds_toArray, List.set_cons_zero, List.set_cons_succ])
        refine seqH_eff (by rfl) (by rfl) fun K hK => ?_
        have hft := foot_in HIN.out HX.out
        refine wp_callC 33 #[.pointer (some ⟨L.g, 0, none⟩), .slice qa n c1] (by go_simp) (R := fun v w' => v = .tuple #[] ∧ DiskAt w' L.g L.bd L.bc L.ba (Dsk0.cut b.D (qs.take n)) ∧ Fr L.foot w5 w')
          ((cut_calls L.g L.bd L.bc L.ba b.D w5.drew (hDK5.out.keep (Fr.refl _ w5).drew).disk _ (qs.take n) ((hI1.out.fr ((Fr.refl (fun _ => False) w5).drew) (fun _ _ _ h => h)).imp (fun b _ hn hq => hn (hft b (.inr hq))))).mono (by rintro e w' ⟨rfl, hd, hf⟩; exact ⟨_, rfl, rfl, hd, hf.undrew⟩)) ?_
        rintro v w6 ⟨rfl, d6, f6⟩
        have D6 := Lib.hid d6; clear d6
        have hnf : ¬ L.foot wr.heap.size := fun h => by
          have := HIN.out.olt _ (hft _ (.inr h))
          omega
        refine hK.out _ _ ((f6.cb hl5 hnf).trans p05) ?_
        refine seqH_nil ?_
        have hbay : T.bays.modify k (fun x => { x with D := Dsk0.cut x.D (qs.take n) }) = T.bays.set k { b with D := Dsk0.cut b.D (qs.take P) } := by rw [Shf0.modify_set HSBK.out, HTK.out]
        have hfin : ∃ bs im iv, bs.length = nb ∧ ShelfIn w6 O s (Shf0.turnD T k fun D => Dsk0.cut D (qs.take n)) bs im (.slice (some ⟨vb2, 0, none⟩) nb cap) iv :=
          ⟨_, _, _, by rw [List.length_modify]; exact HBL.out, hIN5.out.turn (F := fun D => Dsk0.cut D (qs.take n)) HX.out f6 (hDK5.out.turn D6.out (cut_len _ _) f6.size) (cut_len _ _)⟩
        have HFIN := Lib.hid hfin
        have hTe' : Shf0.turnD T k (fun D => Dsk0.cut D (qs.take n)) = { S with bays := (Shf0.turnD T k fun D => Dsk0.cut D (qs.take n)).bays } := by
          unfold Shf0.turnD
          conv => lhs; rw [HTE.out]
        have HTE' := Lib.hid hTe'
        have hcut' : Shf0.cutBays S.bays ps = (Shf0.turnD T k fun D => Dsk0.cut D (qs.take n)).bays.take (k + 1) ++ Shf0.cutBays ((Shf0.turnD T k fun D => Dsk0.cut D (qs.take n)).bays.drop (k + 1)) (qs.drop n) := by
          show _ = (T.bays.modify k fun x => { x with D := Dsk0.cut x.D (qs.take n) }).take (k + 1) ++ Shf0.cutBays ((T.bays.modify k fun x => { x with D := Dsk0.cut x.D (qs.take n) }).drop (k + 1)) (qs.drop n)
          rw [hbay, HCUT.out, HDP.out, Shf0.cutBays_in HSBK.out H1.out qs { b with D := Dsk0.cut b.D (qs.take P) } (by rw [HPE.out]), ← HPE.out]
        have HCUT' := Lib.hid hcut'
        have hw5 := FF5.out.size
        have hI6 : IntsAt w6 (.slice a2 (qs.length - n) c2) (qs.drop n) (fun b => ¬ O b) := hI2.out.fr f6 (fun b _ hn hq => hn (hft b (.inr hq)))
        have HI6 := Lib.hid hI6
        have hffin : Fr O w w6 := (hfr.trans' FF5.out (U := fun q => q = wr.heap.size ∨ O q) (fun _ _ h => .inr h) (fun _ _ h => .inl h)).trans' f6 (fun i hi h => h.elim (fun h => by omega) id) (fun q _ hq => hft q (.inr hq))
        have HF6 := Lib.hid hffin
        clear hffin hI6 hcut' hTe' hfin hbay f6 hnf hft hK p05 hs1
        go_wp2_with fail
        have hn : gk + k = nb := HM.out
        go_roundg (gk - 1)
        case measure => omega
        case rel => exact ⟨k + 1, _, qs.drop n, a2, c2, by omega, by go_num, by rw [List.length_drop], by rw [List.length_drop]; exact hc2, by rw [List.length_drop]; exact HI6.out, HFIN.out, HTE'.out, HCUT'.out, HF6.out⟩
      · have hb1 : (st == 1) = false := by simp [h1]
        have hcut' : Shf0.cutBays S.bays ps = T.bays.take (k + 1) ++ Shf0.cutBays (T.bays.drop (k + 1)) qs := by
          rw [HCUT.out]; exact Shf0.cutBays_out HSBK.out (by rw [← HST.out]; exact h1) qs
        have HCUT' := Lib.hid hcut'
        clear h1 hcut'
        unfold Loc.ptr at q0
        go_wp2_with (first
          | (refine im_alloc_row rfl 106 rfl (zero106 _) ?_; intro w3 b3 f3 z3; have B3 := Lib.hid b3; clear b3; have Z3 := Lib.hid z3; clear z3)
          | (refine im_store_row rfl 106 _ _ rfl (vs := #[.pointer (some ⟨L.g, 0, none⟩), .int .i64 st]) rfl rfl B3.out rfl info106 (bay_one _ rfl _) ?_; intro w4 b4 f4 z4; have p0 : w4.cell? ⟨wr.heap.size, 0, none⟩ = some (.pointer (some ⟨L.g, 0, none⟩)) := cell_of_blk b4; have p1 : w4.cell? ⟨wr.heap.size, 1, none⟩ = some (.int .i64 st) := cell_of_blk b4; have hl4 := lt_of_blk b4; clear b4; have Z4 := Lib.hid z4; clear z4))
        have hz3 := Z3.out
        have hz4 := Z4.out
        have ff : Fr (fun q => q = wr.heap.size) wr w4 := f3.no.trans f4
        have hno : ∀ q, O q → ¬ q = wr.heap.size := fun q hq e => by have := HIN.out.olt q hq; omega
        have hffin : Fr O w w4 := (hfr.trans' ff (U := fun q => q = wr.heap.size ∨ O q) (fun _ _ h => .inr h) (fun _ _ h => .inl h)).trans' (Fr.refl (fun _ => False) w4) (fun i hi h => h.elim (fun h => by omega) id) (fun _ _ h => h.elim)
        have hn : gk + k = nb := HM.out
        go_roundg (gk - 1)
        case measure => omega
        case rel => exact ⟨k + 1, T, qs, qa, qc, by omega, by go_num, rfl, hqc, HQ.out.fr ff (fun b hb _ e => by omega), ⟨_, _, _, HBL.out, HIN.out.fr ff hno⟩, HTE.out, HCUT'.out, hffin⟩
    · have hkn : k = nb := by have := HM.out; omega
      have hbays : T.bays = Shf0.cutBays S.bays ps := by
        rw [HCUT.out, hkn, List.take_of_length_le (by omega), List.drop_of_length_le (by omega)]; simp [Shf0.cutBays]
      have HBY := Lib.hid hbays
      have HB := Lib.hid hin.head
      have hOs := hin.os
      clear hin hbl hTl hbays
      go_wp2_with (first
        | (refine im_store1 (j := 8) rfl 4 _ _ rfl (b := s) (v := .bool false) rfl rfl rfl (by kernel_rfl) HB.out (by simp [shelfC]) ?_; intro w2 b2 f2 z2; have B2 := Lib.hid b2; clear b2; clear z2)
        | (refine im_store1 (j := 9) rfl 4 _ _ rfl (b := s) (v := .bool false) rfl rfl rfl (by kernel_rfl) B2.out (by simp [shelfC]) ?_; intro w3 b3 f3 z3; have B3 := Lib.hid b3; clear b3; clear z3))
      go_end0
      have hok := HIN.out.ok
      have hmt : Shf0.mount S ps = { T with off := false, fused := false } := by
        unfold Shf0.mount
        rw [← HBY.out]
        conv => rhs; rw [HTE.out]
      refine ⟨rfl, ?_, hfr.trans ((f2.trans f3).mono fun q _ hq => by rw [hq]; exact hOs)⟩
      rw [hmt]
      exact ⟨_, _, _, _, HIN.out.setHead (S' := { T with off := false, fused := false }) (f2.trans f3) B3.out ⟨hok.cfg, hok.sec, hok.num, hok.bay, hok.len, hok.st, hok.img⟩ rfl rfl⟩
end
end Go.Proofs.Ytmbkmfpnjpkakaa
