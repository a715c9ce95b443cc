/- The reference disk: settle. -/
import Derived.Test.YtmbkmfpnjpkakaaE5
import Derived.Deep.CutRange
namespace Go.Im
open Go
section
variable {P : Program} {ops : Array Oper} {Q : Exit → Act → World → Prop}
/-- Cells of a block appended to a row that the call has made, inside a region. -/
theorem wp_append_cells {K : Act → World → Prop} {o : Oper} {a : Act} {w : World} (s x : Operand) (t : TypeId) (hop : o.op = .call { callee := .builtin .append, args := #[s, x], argTypes := #[t, t] })
    (base : Nat) {e : TypeId} {i : TypeInfo} {z : Value} {bytes : Nat} (ht : P.underlying t = some (.slice e)) (hi : P.info? e = some i) (hz : i.zero = some z)
    (hsize : i.size = 1) (hby : i.bytes = bytes) (hzs : z.cells.size = 1)
    {v : Value} {n : Nat} {xs : List Value} (hs : a.eval s = v) (hown : w.ownsRow base e 1 v n xs)
    {b p m c : Nat} {ys : List Value} (hx : a.eval x = .slice (some ⟨b, p, none⟩) m c) (hl : ys.length = m) (hc : ∀ j u, ys[j]? = some u → w.cell? ⟨b, p + j, none⟩ = some u) (h1 : ∀ u ∈ ys, u.oneCell' = true)
    (h63 : n + m ≤ maxLen) (hbytes : (n + m) * bytes ≤ 140737488355328) (hbase : base ≤ w.heap.size)
    (h : ∀ v' w', w'.ownsRow base e 1 v' (n + m) (xs ++ ys) → Fr (fun k => base ≤ k) w w' → K (a.put o.dst v') w') : o.wp P a w K Q :=
  wp_append_own w s x t hop base e i z 1 bytes ht hi hz hsize hby hzs (by decide) v n xs hs hown ⟨b, p, none⟩ m c ys hx (by simp [hl]) (fun j u hj => by
    have e1 : (⟨b, p, none⟩ : Addr).add j = ⟨b, p + j, none⟩ := by
      unfold Addr.add
      split
      · rename_i h; subst h; rfl
      · rfl
    rw [e1]; exact hc j u hj) h1 h63 hbytes hbase fun v' w' h2 h3 _ => h v' w' h2 ((Fr.of_grown h3).mono fun k _ hk => row_block hown hk)
end

theorem noBytes_new (w : World) : Go.Proofs.Ytmbkmfpnjpkakaa.noBytes w (fun k => w.heap.size ≤ k) := fun b cs fr hb h => by
  have := lt_of_blk hb
  simp only at h
  omega
end Go.Im
namespace Go.Proofs.Ytmbkmfpnjpkakaa
open Go.RowKit Go.Im Go.Dsk0

theorem mt70 : Try.prog.underlying 70 = some (.slice 5) := u70
/-- A row of bytes that is not empty. -/
theorem BytesAt.row {w : World} {base n : Nat} {v : Value} {l : List UInt8} (h : w.ownsRow base 5 1 v n (l.map B)) (hn : 0 < n) : BytesAt w v l := by
  obtain ⟨h1, h2 | ⟨gb, vc, cur, h2, h3, h4, h5, h6, h7, h8⟩⟩ := h
  · omega
  · have hl : l.length = n := by simpa using h1
    refine ⟨gb, vc, cur, (0, 0), by rw [h2, hl], by omega, h4, fun j x hx => ?_⟩
    have hj : j < l.length := (List.getElem?_eq_some_iff.1 hx).1
    have : (cur.toList.take (n * 1))[j]? = some (B x) := by rw [h8, List.getElem?_map, hx]; rfl
    rw [List.getElem?_take_of_lt (by omega)] at this
    simpa using this

/-- A pending sector settled. -/
theorem RefAt.settled {w w' : World} {g bl : Nat} {D : Dsk} {cap : Nat} {cs : Array Value} {i n : Nat} {dv : Value} {s : Sec} {c : List UInt8} (hk : Ok D) (hgl : g ≠ bl) (hg : w.heap[g]? = some (.cells #[.slice (some ⟨bl, 0, none⟩) D.length cap] 122 (0, 0))) (hc : D.length ≤ cap)
    (hb : w.heap[bl]? = some (.cells cs 124 (0, 0))) (hz : D.length * 4 ≤ cs.size) (hs : ∀ i s, D[i]? = some s → SecAt w cs i s) (hi : i < D.length) (hsi : D[i]? = some s) (hci : s.cac = some c)
    (f : Fr (fun k => k = bl) w w') (hb' : w'.heap[bl]? = some (.cells ((cs.setIfInBounds (i * 4) dv).setIfInBounds (i * 4 + 2) (.bool false)) 124 (0, 0))) (hv : BytesAt w' dv (c.take n ++ s.dur.drop n)) : RefAt w' g bl (D.modify i fun s => cutOne s n) := by
  refine RefAt.sec (i := i) (hk.cutOne i n) (by simp) hgl hg hc hb hz hs f hb' (by simp) (fun k u hne hu => (cells_other (by omega) hu (.inl (fun e => hne e.symm))).trans (cells_other (t := 0) (by omega) hu (.inl (fun e => hne e.symm)))) fun k x hk' => ?_
  rcases modify_get hk' with ⟨rfl, t, ht, rfl⟩ | h
  · left
    have e := Option.some.inj (hsi.symm.trans ht)
    subst e
    obtain ⟨⟨dv0, h1, h2⟩, ⟨cv0, h3, h4⟩, h5, h6⟩ := (hs _ s ht).fr f (noBytes_row hb (by decide))
    have e2 : cutOne s n = { s with dur := c.take n ++ s.dur.drop n, cac := none } := by unfold cutOne; rw [hci]
    rw [e2]
    refine ⟨rfl, ⟨dv, (cells_other (t := 2) (u := 0) (by omega) (by omega) (.inr (by omega))).trans (cells_this (t := 0) (by omega) hi hz), hv⟩, ⟨cv0, (cells_other (t := 2) (u := 1) (by omega) (by omega) (.inr (by omega))).trans ((cells_other (t := 0) (u := 1) (by omega) (by omega) (.inr (by omega))).trans h3), fun c hc' => by cases hc'⟩, cells_this (by omega) hi (by simpa using hz), (cells_other (t := 2) (u := 3) (by omega) (by omega) (.inr (by omega))).trans ((cells_other (t := 0) (u := 3) (by omega) (by omega) (.inr (by omega))).trans h6)⟩
  · exact .inr h

set_option maxRecDepth 100000 in
set_option maxHeartbeats 3000000 in
theorem rsettle_calls (g bl : Nat) (D : Dsk) (w : World) (h : RefAt w g bl D) (pv : Value) (ps : List Int) (hp : IntsAt w pv ps (fun b => D ≠ [] → b ≠ bl)) :
    Calls Try.prog 101 #[.pointer (some ⟨g, 0, none⟩), pv] w fun e w' => e = .returned (.tuple #[]) ∧ RefAt w' g bl (Dsk0.settle ps 0 (pend D) D) ∧ Fr (fun q => q = bl) w w' := by
  obtain ⟨pa, pc, rfl, hpl, hps⟩ := hp
  have Hps := Lib.hid hps; clear hps
  have H := Lib.hid h
  obtain ⟨av, cap, c0, hg, hcap, hd⟩ := h.open_
  have hglt := lt_of_blk hg
  have hlen := h.ok.len
  have HDD := Lib.hid hd; clear hd
  clear hg h
  obtain ⟨L, hL⟩ : ∃ L, L = pend D := ⟨_, rfl⟩
  have HLe := Lib.hid hL; clear hL
  obtain ⟨i0, hi, hz0, hz1, hz2⟩ := info_parts info5
  go_enter Try.func101, Try.ntmps101
  go_wp2_with fail
  refine (rpending_calls g bl D w H.out).mono ?_; rintro e w1 ⟨v, rfl, hrow, f1⟩
  have hrow' : ∃ va vc, v = .slice va L.length vc ∧ (L = [] ∨ ∃ gb, va = some ⟨gb, 0, none⟩ ∧ w.heap.size ≤ gb ∧ gb < w1.heap.size ∧ ∀ (j x : Nat), L[j]? = some x → w1.cell? ⟨gb, j, none⟩ = some (.int .i64 x)) := by
    have hll : (pendI D).length = L.length := by rw [HLe.out]; simp [pendI]
    obtain ⟨h1, h2 | ⟨gb, vc, cur, h2, h3, h4, h5, h6, h7, h8⟩⟩ := hrow
    · refine ⟨none, 0, ?_, .inl (List.eq_nil_of_length_eq_zero (by omega))⟩
      rw [h2.1]; congr 1; omega
    · refine ⟨_, vc, by rw [h2, hll], .inr ⟨gb, rfl, h3, lt_of_blk h4, fun j x hx => ?_⟩⟩
      have hj : j < (pendI D).length := by rw [hll]; exact (List.getElem?_eq_some_iff.1 hx).1
      rw [cell_of_blk h4]
      have : (cur.toList.take ((pendI D).length * 1))[j]? = some (.int .i64 x) := by
        rw [h8, List.getElem?_map]
        unfold pendI
        rw [List.getElem?_map, ← HLe.out, hx]; rfl
      rw [List.getElem?_take_of_lt (by omega)] at this
      simpa using this
  clear hrow
  obtain ⟨va, vc, rfl, hva⟩ := hrow'
  have HVA := Lib.hid hva; clear hva
  have hLlen : L.length ≤ 65536 := by
    rw [HLe.out]
    have := H.out.ok.len
    refine Nat.le_trans (List.length_filter_le _ _) (by simpa using this)
  have H1 := Lib.hid (H.out.fr f1 (fun h => h) (fun _ h => h) (fun _ _ _ _ h => h))
  have hf1 := f1.size
  go_wp2_with fail
  go_loopg [5] L.length (fun n t wr => ∃ k : Nat, n + k = L.length ∧ t = .int .i64 k ∧ RefAt wr g bl (Dsk0.settle ps 0 (L.take k) D) ∧ Fr (fun q => q = bl) w1 wr)
  case atStart => exact ⟨0, rfl, rfl, H1.out, Fr.refl _ _⟩
  case round =>
    obtain ⟨k, hn, rfl, href, hfr⟩ := hrel
    have HN := Lib.hid hn; clear hn
    have HR := Lib.hid href; clear href
    have hrs := hfr.size
    by_cases hk : k < L.length
    · obtain ⟨i, hi⟩ : ∃ i, L[k]? = some i := ⟨_, List.getElem?_eq_getElem hk⟩
      have hmem : i ∈ pend D := by rw [← HLe.out]; exact List.mem_of_getElem? hi
      obtain ⟨s, l, hs, hl⟩ := pend_mem.1 hmem
      have hilt : i < D.length := (List.getElem?_eq_some_iff.1 hs).1
      have hnin : i ∉ L.take k := fun hin => by
        have hnd : L.Nodup := by rw [HLe.out]; exact pend_nodup D
        obtain ⟨j, hj⟩ := List.mem_iff_getElem?.1 hin
        rw [List.getElem?_take] at hj
        split at hj
        · have hjk : j = k := (List.getElem?_inj (l := L) (i := j) (j := k) (by omega) hnd).1 (by rw [hj, hi])
          omega
        · cases hj
      have hsk : (Dsk0.settle ps 0 (L.take k) D)[i]? = some s := (settle_get_out ps _ 0 D i hnin).trans hs
      have hsn : Dsk0.settle ps 0 (L.take (k + 1)) D = (Dsk0.settle ps 0 (L.take k) D).modify i fun s => Dsk0.cutOne s (clamp ((ps[k]?).getD 0)) := by
        rw [List.take_add_one, hi]
        simp only [Option.toList_some]
        rw [settle_snoc]
        simp only [List.length_take, Nat.zero_add]
        rw [show min k L.length = k by omega]
      have HSN := Lib.hid hsn; clear hsn
      have hlk : (Dsk0.settle ps 0 (L.take k) D).length = D.length := settle_length _ _ _ _
      obtain ⟨E, hE⟩ : ∃ E, E = Dsk0.settle ps 0 (L.take k) D := ⟨_, rfl⟩
      rw [← hE] at hsk hlk HR HSN
      clear hE hs hmem hnin
      obtain ⟨gb, rfl, hgb1, hgb2, hgbc⟩ := (HVA.out.resolve_left (fun e => by rw [e] at hk; simp at hk))
      obtain ⟨avk, capk, c0k, hgk, hcapk, hdk⟩ := HR.out.open_
      rcases hdk with hdk | ⟨rfl, hgl, cs, hbk, hszk, hsk2⟩
      · rw [hdk] at hlk; simp at hlk; omega
      have hblt : bl < w.heap.size := by
        rcases HDD.out with h | ⟨-, -, cs0, h, -⟩
        · rw [h] at hilt; simp at hilt
        · exact lt_of_blk h
      have hok := HR.out.ok
      have hdl : s.dur.length = 64 := hok.dur s (List.mem_of_getElem? hsk)
      have hll : l.length = 64 := hok.cac s (List.mem_of_getElem? hsk) l hl
      obtain ⟨⟨dv, h1, h2⟩, ⟨cv, h3, h4⟩, h5, h6⟩ := hsk2 i s hsk
      have hD2 := Lib.hid h2
      have hC2 := Lib.hid (h4 l hl)
      obtain ⟨db, dcp, dcs, dfr, rfl, hdc, hdb, hdcs⟩ := h2
      obtain ⟨cb, ccp, ccs, cfr, rfl, hcc, hcb, hccs⟩ := h4 l hl
      rw [hdl] at h1 hdc
      rw [hll] at h3 hcc
      have cL : wr.cell? ⟨gb, k, none⟩ = some (.int .i64 i) := (hfr.cb hgb2 (by omega)).trans (hgbc k i hi)
      have cD : wr.cell? ⟨bl, i * 4, none⟩ = some (.slice (some ⟨db, 0, none⟩) 64 dcp) := (cell_of_blk hbk).trans h1
      have cC : wr.cell? ⟨bl, i * 4 + 1, none⟩ = some (.slice (some ⟨cb, 0, none⟩) 64 ccp) := (cell_of_blk hbk).trans h3
      rw [hlk] at hgk c0k hszk hcapk
      have HDB := Lib.hid (show (wr.heap[db]? = some (.cells dcs 5 dfr)) ∧ ∀ j x, s.dur[j]? = some x → dcs[j]? = some (B x) from ⟨hdb, hdcs⟩)
      have HCB := Lib.hid (show (wr.heap[cb]? = some (.cells ccs 5 cfr)) ∧ ∀ j x, l[j]? = some x → ccs[j]? = some (B x) from ⟨hcb, hccs⟩)
      have HBK := Lib.hid hbk
      have HSK := Lib.hid hsk
      have HSK2 := Lib.hid hsk2
      have HGK := Lib.hid hgk
      have HLK := Lib.hid hlk
      have HDL := Lib.hid hdl
      have HLL := Lib.hid hll
      have HL := Lib.hid hl
      have HOK := Lib.hid hok
      have HIK := Lib.hid hi
      have i0' : (0 : Int) ≤ i := by omega
      have i1' : (i : Int) < D.length := by omega
      have hgltr : g < wr.heap.size := by omega
      have hgbr : gb < wr.heap.size := by omega
      have hblr : bl < wr.heap.size := by omega
      have hdbr : db < wr.heap.size := lt_of_blk hdb
      have hcbr : cb < wr.heap.size := lt_of_blk hcb
      have hgbl : gb ≠ bl := by omega
      clear hgbc hbk hsk hsk2 hgk hlk hdl hll hl hok hi h1 h3 h4 h5 h6 hdb hdcs hcb hccs hC2 hD2
      obtain ⟨q, hq⟩ : ∃ q, q = clamp ((ps[k]?).getD 0) := ⟨_, rfl⟩
      have hq64 : q ≤ 64 := by rw [hq]; exact clamp_le _
      rw [← hq] at HSN
      have q0 : (0 : Int) ≤ q := by omega
      have q1 : (q : Int) ≤ 64 := by omega
      have q2 : (q : Int) ≤ ccp := by omega
      have hgo : (∃ (p : Int) (pb po : Nat), pa = some ⟨pb, po, none⟩ ∧ k < ps.length ∧ wr.cell? ⟨pb, po + k, none⟩ = some (.int .i64 p) ∧ max 0 (min p 64) = (q : Int)) ∨ (¬ k < ps.length ∧ q = 0) := by
        by_cases hkp : k < ps.length
        · left
          obtain ⟨p, hp⟩ : ∃ p, ps[k]? = some p := ⟨_, List.getElem?_eq_getElem hkp⟩
          obtain ⟨pb, po, rfl, hpb1, hpb2, hpb3⟩ := (Hps.out.resolve_left (fun e => by rw [e] at hkp; simp at hkp))
          exact ⟨p, pb, po, rfl, hkp, ((hfr.cb (by omega) (hpb2 (fun e => by rw [e] at hilt; simp at hilt))).trans (f1.cb hpb1 (fun h => h))).trans (hpb3 k p hp), by rw [hq, hp]; unfold clamp; simp only [Option.getD_some]; omega⟩
        · right
          exact ⟨hkp, by rw [hq, List.getElem?_eq_none (by omega)]; rfl⟩
      clear hq
      go_upto_if 19 with fail
      go_cut [6] from 10 to 75 (fun s6 wx => s6 = .int .i64 (q : Int) ∧ wr = wx)
      case first =>
        rcases hgo with ⟨p, pb, po, rfl, hkp, hcp, hmm⟩ | ⟨hkp, rfl⟩
        · go_wp2_with fail
          go_meet
          exact ⟨rfl, rfl⟩
        · have hkp' : (ps.length : Int) ≤ k := by omega
          go_wp2_with fail
          go_meet
          exact ⟨rfl, rfl⟩
      case rest =>
        obtain ⟨rfl, rfl⟩ := hcut
        clear hgo
        go_wp2_with fail
        refine wp_region_seq (fun W => W.cell? ⟨g, 0, none⟩ = some (.slice (some ⟨bl, 0, none⟩) D.length capk) ∧ W.cell? ⟨gb, k, none⟩ = some (.int .i64 i) ∧ W.cell? ⟨bl, i * 4 + 1, none⟩ = some (.slice (some ⟨cb, 0, none⟩) 64 ccp)) [0, 1, 2, 3, 4, 5, 6, 7, 8, 9, 10, 11, 12, 13, 14, 15] [14, 15] (by kernel_rfl) (by kernel_rfl) (by kernel_rfl) ⟨c0k, cL, cC⟩ ?_
        simp only [pickOps, List.filterMap_cons, List.filterMap_nil, List.getElem?_toArray, List.getElem?_cons_zero, List.getElem?_cons_succ, Option.map_some]
        repeat (refine seqH_read (v := ?_) (by rfl) (by rfl) ?_ ?_; rotate_left; (focus (intro W hS; (try dsimp only at hS); obtain ⟨s1, s2, s3⟩ := hS; go_simp; try with_reducible rfl)); simp only [Act.put, List.setIfInBounds_toArray, List.set_cons_zero, List.set_cons_succ])
        refine seqH_eff (by rfl) (by rfl) fun K hK => ?_
        refine wp_append_cells _ _ 70 rfl wr.heap.size mt70 hi hz0 hz1 hz2 rfl rfl (World.ownsRow_nil _ _ _ _) (b := cb) (p := 0) (m := q) (ys := (l.take q).map B) rfl (by rw [List.length_map, List.length_take, HLL.out]; omega) (fun j u hj => by
          rw [List.getElem?_map, List.getElem?_take] at hj
          split at hj
          · rename_i hjq
            cases hx : l[j]? with
            | none => simp [hx] at hj
            | some x => rw [hx] at hj; rw [Nat.zero_add]; exact (cell_of_blk HCB.out.1).trans ((HCB.out.2 j x hx).trans hj)
          · cases hj) (fun u hu => by obtain ⟨x, _, rfl⟩ := List.mem_map.1 hu; exact B_one x) (by unfold maxLen; omega) (by omega) (Nat.le_refl _) ?_
        intro v1 w2 o2 f2
        replace f2 := f2.undrew
        have O2 := Lib.hid o2; clear o2
        have c02 := (f2.cb hgltr (by omega)).trans c0k
        have cL2 := (f2.cb hgbr (by omega)).trans cL
        have cD2 := (f2.cb hblr (by omega)).trans cD
        have hs2 := f2.size
        refine hK.out _ _ ⟨c02, cL2, (f2.cb hblr (by omega)).trans cC⟩ ?_
        simp only [Act.put, List.setIfInBounds_toArray, List.set_cons_zero, List.set_cons_succ]
        refine seqH_eff (by rfl) (by rfl) fun K hK => ?_
        unfold Oper.wp
        go_simp
        refine hK.out _ _ ⟨c02, cL2, (f2.cb hblr (by omega)).trans cC⟩ ?_
        refine seqH_nil ?_
        clear cC cL c0k hK HCB
        go_wp2_with fail
        have hsl : ∃ p, (64 - q ≠ 0 → p = q) ∧ ∀ W, (Instr.slice 70 (.slice (some ⟨db, 0, none⟩) 64 dcp) (some (.int .i64 (q : Int))) none none).run Try.prog W = .ok (.slice (some ⟨db, p, none⟩) (64 - q) (dcp - q)) W := by
          by_cases he : dcp = q
          · refine ⟨0, fun h => by omega, fun W => ?_⟩
            rw [run_slice_l (P := Try.prog) W 70 (some ⟨db, 0, none⟩) 64 dcp (by kernel_rfl) .i64 (q : Int) (by omega) (by omega)]
            rw [show (sizeOf (Try.prog.elem 70)).run Try.prog W = .ok 1 W by kernel_rfl]
            simp only [Result.andThen_ok, sliced, Int.toNat_natCast, if_pos he]
          · refine ⟨q, fun h => rfl, fun W => ?_⟩
            rw [run_slice_l (P := Try.prog) W 70 (some ⟨db, 0, none⟩) 64 dcp (by kernel_rfl) .i64 (q : Int) (by omega) (by omega)]
            rw [show (sizeOf (Try.prog.elem 70)).run Try.prog W = .ok 1 W by kernel_rfl]
            simp only [Result.andThen_ok, sliced, Int.toNat_natCast, if_neg he, Option.map_some, Nat.mul_one]
            have : (⟨db, 0, none⟩ : Addr).add q = ⟨db, q, none⟩ := by
              unfold Addr.add; split
              · rename_i h; subst h; rfl
              · simp
            rw [this]
        obtain ⟨p, hpq, hsl⟩ := hsl
        refine wp_region_seq (fun W => W.cell? ⟨g, 0, none⟩ = some (.slice (some ⟨bl, 0, none⟩) D.length capk) ∧ W.cell? ⟨gb, k, none⟩ = some (.int .i64 i)) [0, 1, 2, 3, 4, 5, 6, 7, 8, 9, 10, 11, 12, 13, 14, 15, 16, 17, 18, 20, 19, 21, 22, 23, 24, 25] [19, 22, 25] (by kernel_rfl) (by kernel_rfl) (by kernel_rfl) ⟨c02, cL2⟩ ?_
        simp only [pickOps, List.filterMap_cons, List.filterMap_nil, List.getElem?_toArray, List.getElem?_cons_zero, List.getElem?_cons_succ, Option.map_some]
        repeat (refine seqH_read (v := ?_) (by rfl) (by rfl) ?_ ?_; rotate_left; (focus (intro W hS; (try dsimp only at hS); obtain ⟨s1, s2⟩ := hS; go_simp; try with_reducible rfl)); simp only [Act.put, List.setIfInBounds_toArray, List.set_cons_zero, List.set_cons_succ])
        refine seqH_eff (by rfl) (by rfl) fun K hK => ?_
        unfold Oper.wp
        go_simp
        refine hK.out _ _ ⟨c02, cL2⟩ ?_
        (try simp only [Act.put, List.setIfInBounds_toArray, List.set_cons_zero, List.set_cons_succ])
        refine seqH_read (v := .slice (some ⟨db, p, none⟩) (64 - q) (dcp - q)) (by rfl) (by rfl) ?_ ?_
        · intro W hS
          go_simp
        (try simp only [Act.put, List.setIfInBounds_toArray, List.set_cons_zero, List.set_cons_succ])
        have hdb2 : w2.heap[db]? = some (.cells dcs 5 dfr) := (f2.block db hdbr (by omega)).trans HDB.out.1
        have HDB2 := Lib.hid hdb2; clear hdb2
        refine seqH_eff (by rfl) (by rfl) fun K hK => ?_
        refine wp_append_cells _ _ 70 rfl wr.heap.size mt70 hi hz0 hz1 hz2 rfl rfl O2.out (b := db) (p := p) (m := 64 - q) (ys := (s.dur.drop q).map B) rfl (by rw [List.length_map, List.length_drop, HDL.out]) (fun j u hj => by
          rw [List.getElem?_map, List.getElem?_drop] at hj
          cases hx : s.dur[q + j]? with
          | none => simp [hx] at hj
          | some x =>
            rw [hx] at hj
            have hlt := (List.getElem?_eq_some_iff.1 hx).1
            rw [HDL.out] at hlt
            rw [hpq (by omega)]
            exact (cell_of_blk HDB2.out).trans ((HDB.out.2 _ x hx).trans hj)) (fun u hu => by obtain ⟨x, _, rfl⟩ := List.mem_map.1 hu; exact B_one x) (by unfold maxLen; omega) (by omega) hs2 ?_
        intro v3 w3 o3 f3
        replace f3 := f3.undrew
        have hb3 : BytesAt w3 v3 (l.take q ++ s.dur.drop q) := by
          rw [List.nil_append, ← List.map_append, Nat.zero_add] at o3
          exact BytesAt.row (by simpa using o3) (by omega)
        have HB3 := Lib.hid hb3; clear hb3 o3
        obtain ⟨vb, vc3, vcs, vfr, rfl, -, -, -⟩ := HB3.out
        have hlen64 : (l.take q ++ s.dur.drop q).length = 64 := by rw [List.length_append, List.length_take, List.length_drop, HLL.out, HDL.out]; omega
        have HL64 := Lib.hid hlen64; clear hlen64
        rw [HL64.out]
        have c03 := (f3.cb (by omega) (by omega)).trans c02
        have cL3 := (f3.cb (by omega) (by omega)).trans cL2
        refine hK.out _ _ ⟨c03, cL3⟩ ?_
        simp only [Act.put, List.setIfInBounds_toArray, List.set_cons_zero, List.set_cons_succ]
        repeat (refine seqH_read (v := ?_) (by rfl) (by rfl) ?_ ?_; rotate_left; (focus (intro W hS; (try dsimp only at hS); obtain ⟨s1, s2⟩ := hS; go_simp; try with_reducible rfl)); simp only [Act.put, List.setIfInBounds_toArray, List.set_cons_zero, List.set_cons_succ])
        have f23 : Fr (fun k => wr.heap.size ≤ k) wr w3 := f2.trans f3
        have hbl3 : w3.heap[bl]? = some (.cells cs 124 (0, 0)) := (f23.block bl hblr (by omega)).trans HBK.out
        have HBL3 := Lib.hid hbl3; clear hbl3
        refine seqH_eff (by rfl) (by rfl) fun K hK => ?_
        refine wp_store1 70 _ _ rfl (v := .slice (some ⟨vb, 0, none⟩) 64 vc3) rfl (by go_simp) rfl (by kernel_rfl) HBL3.out (by omega) ?_
        intro w4 b4 f4 z4
        have B4 := Lib.hid b4; clear b4 z4
        have hs3 := f3.size
        have c04 := (f4.cb (by omega) hgl).trans c03
        have cL4 := (f4.cb (by omega) hgbl).trans cL3
        refine hK.out _ _ ⟨c04, cL4⟩ ?_
        refine seqH_nil ?_
        clear c03 cL3 c02 cL2 cD hK hsl hpq
        go_wp2_with fail
        refine wp_region_seq (fun W => W.cell? ⟨g, 0, none⟩ = some (.slice (some ⟨bl, 0, none⟩) D.length capk) ∧ W.cell? ⟨gb, k, none⟩ = some (.int .i64 i)) [0, 1, 2, 3, 4, 5, 6, 7, 8, 9, 10] [10] (by kernel_rfl) (by kernel_rfl) (by kernel_rfl) ⟨c04, cL4⟩ ?_
        simp only [pickOps, List.filterMap_cons, List.filterMap_nil, List.getElem?_toArray, List.getElem?_cons_zero, List.getElem?_cons_succ, Option.map_some]
        repeat (refine seqH_read (v := ?_) (by rfl) (by rfl) ?_ ?_; rotate_left; (focus (intro W hS; (try dsimp only at hS); obtain ⟨s1, s2⟩ := hS; go_simp; try with_reducible rfl)); simp only [Act.put, List.setIfInBounds_toArray, List.set_cons_zero, List.set_cons_succ])
        refine seqH_eff (by rfl) (by rfl) fun K hK => ?_
        refine wp_store1 4 _ _ rfl (v := .bool false) rfl rfl rfl (by kernel_rfl) B4.out (by simp; omega) ?_
        intro w5 b5 f5 z5
        have B5 := Lib.hid b5; clear b5 z5
        replace f5 := f5.undrew
        have hs4 := f4.size
        refine hK.out _ _ ⟨(f5.cb (by omega) hgl).trans c04, (f5.cb (by omega) hgbl).trans cL4⟩ ?_
        refine seqH_nil ?_
        have ff : Fr (fun q => q = bl) wr w5 := f23.trans' (f4.trans f5) (fun i hi h => by omega) (fun i hi h => h)
        have hn : gk + k = L.length := HN.out
        have hfin : RefAt w5 g bl (Dsk0.settle ps 0 (L.take (k + 1)) D) := by
          rw [HSN.out]
          refine RefAt.settled (cap := capk) (c := l) HOK.out hgl (by rw [HLK.out]; exact HGK.out) (by rw [HLK.out]; exact hcapk) HBK.out (by rw [HLK.out]; exact hszk) HSK2.out (by rw [HLK.out]; exact hilt) HSK.out HL.out ff B5.out ?_
          have := HB3.out
          rw [HL64.out] at this
          exact (this.fr f4 (noBytes_row HBL3.out (by decide))).fr f5 (noBytes_row B4.out (by decide))
        have HFIN := Lib.hid hfin; clear hfin
        clear c04 cL4 hK
        go_wp2_with fail
        go_roundg (gk - 1)
        case measure => omega
        case rel => exact ⟨k + 1, by omega, by go_num, HFIN.out, hfr.trans ff⟩
    · have hkl : L.take k = pend D := by rw [HLe.out] at hk ⊢; exact List.take_of_length_le (by omega)
      have HKL := Lib.hid hkl; clear hkl
      go_wp2_with fail
      go_end0
      have := HR.out
      rw [HKL.out] at this
      exact ⟨rfl, this, f1.none.trans hfr⟩

end Go.Proofs.Ytmbkmfpnjpkakaa
