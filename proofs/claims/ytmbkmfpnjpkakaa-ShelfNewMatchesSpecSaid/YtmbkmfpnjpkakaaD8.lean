/- The program's disk: Cut. -/
import Derived.Test.YtmbkmfpnjpkakaaD7
namespace Go.Im
open Go.RowKit
theorem im_copy {P : Program} {ops : Array Oper} {rest : List Oper} {o : Oper} {a : Act} {w : World} {Q : Exit → Act → World → Prop} (hg : o.guard = none) (d s : Operand) (dT sT : TypeId) (hop : o.op = Op.call { callee := .builtin .copy, args := #[d, s], argTypes := #[dT, sT] }) {elem : TypeId}
    (hu : P.underlying dT = some (.slice elem)) (hsz : (P.info? elem).map (·.size) = some 1) {b p dLen dCap b2 p2 sLen sCap : Nat} (hd : a.eval d = .slice (some ⟨b, p, none⟩) dLen dCap) (hs : a.eval s = .slice (some ⟨b2, p2, none⟩) sLen sCap)
    (cs : List Value) (hn : cs.length = Nat.min sLen dLen) {ds ss : Array Value} {t t2 : TypeId} {fr : Nat × Nat} (hb : w.heap[b]? = some (.cells ds t (0, 0))) (hfit : p + cs.length ≤ ds.size)
    (hb2 : w.heap[b2]? = some (.cells ss t2 fr)) (hsrc : ∀ (j : Nat) (v : Value), cs[j]? = some v → ss[p2 + j]? = some v) (h1 : ∀ v ∈ cs, v.oneCell' = true)
    (hK : ∀ w', w'.heap[b]? = some (.cells (splice ds p cs) t (0, 0)) → Fr (fun i => i = b) w w' → Hid (w'.heap.size = w.heap.size) → wpList P ops Q rest (a.put o.dst (.int .i64 (cs.length : Int))) w') :
    wpList P ops Q (o :: rest) a w := by
  refine wpList_plain hg fun K' hK' => ?_
  have hrun := run_copy_cells (P := P) w dT sT o.type elem b p dLen dCap ⟨b2, p2, none⟩ sLen sCap cs hu hsz hn
    (fun j v hv => by rw [Addr.add_mid, cell_of_blk hb2]; exact hsrc j v hv)
    (fun j hj => ((there_of_blk hb hfit) j hj).1) (fun j hj => ((there_of_blk hb hfit) j hj).2) h1
  unfold Oper.wp
  simp [execOp, hop, resolve, invoke, builtin, hd, hs, hrun, Result.andThen, goInt]
  obtain ⟨f1, f2⟩ := setCells_fr b cs p w
  exact hK' _ _ (hK _ (setCells_block b _ _ _ _ _ _ hb) f1 f2)
theorem im_lookup_v {P : Program} {ops : Array Oper} {rest : List Oper} {o : Oper} {a : Act} {w : World} {Q : Exit → Act → World → Prop} (hg : o.guard = none) (m x : Operand) (t : TypeId) (hop : o.op = Op.lookup t m x false) {kt et : TypeId} {kd : IntKind} (ht : P.underlying t = some (.map kt et)) (hk : P.underlying kt = some (.int kd))
    {z : Value} (hz : (zeroValue et).run P w = .ok z w) {b : Nat} {f} (k : Int) (hm : a.eval m = .map (some b)) (hx : a.eval x = .int .i64 k) (h : At w b f) (v : Value) (hv : (f k).getD z = v)
    (hK : wpList P ops Q rest (a.put o.dst v) w) : wpList P ops Q (o :: rest) a w := by
  subst hv; exact im_lookup hg m x t hop ht hk hz k hm hx h hK
end Go.Im
namespace Go.Dsk0
theorem settle_snoc (ps : List Int) : ∀ (l : List Nat) (k i : Nat) (D : Dsk), settle ps k (l ++ [i]) D = (settle ps k l D).modify i fun s => cutOne s (clamp ((ps[k + l.length]?).getD 0))
  | [], k, i, D => by simp [settle]
  | x :: l, k, i, D => by
    rw [List.cons_append, settle, settle_snoc ps l (k + 1) i, settle]
    simp only [List.length_cons]
    rw [show k + 1 + l.length = k + (l.length + 1) by omega]
theorem settle_get_out (ps : List Int) : ∀ (l : List Nat) (k : Nat) (D : Dsk) (i : Nat), i ∉ l → (settle ps k l D)[i]? = D[i]?
  | [], _, _, _, _ => rfl
  | x :: l, k, D, i, h => by
    rw [settle, settle_get_out ps l (k + 1) _ i (fun h' => h (by simp [h'])), List.getElem?_modify]
    have : ¬ x = i := fun e => h (by simp [e])
    simp [this]
theorem cutOne_flt (s : Sec) (n : Nat) : (cutOne s n).flt = s.flt := by unfold cutOne; split <;> rfl
theorem settle_flt (ps : List Int) : ∀ (l : List Nat) (k : Nat) (D : Dsk) (i : Nat), ((settle ps k l D)[i]?).map (·.flt) = (D[i]?).map (·.flt)
  | [], _, _, _ => rfl
  | x :: l, k, D, i => by
    rw [settle, settle_flt ps l (k + 1) _ i, List.getElem?_modify]
    cases hs : D[i]? with
    | none => rfl
    | some s =>
      by_cases h : x = i
      · simp [h, cutOne_flt]
      · simp [h]
theorem pend_nodup (D : Dsk) : (pend D).Nodup := List.nodup_range.filter _
theorem pend_mem {D : Dsk} {i : Nat} : i ∈ pend D ↔ ∃ s l, D[i]? = some s ∧ s.cac = some l := by
  unfold pend pends
  rw [List.mem_filter, List.mem_range]
  constructor
  · rintro ⟨hl, hp⟩
    have hs : D[i]? = some D[i] := List.getElem?_eq_getElem hl
    rw [hs] at hp
    obtain ⟨l, hc⟩ := Option.isSome_iff_exists.1 hp
    exact ⟨_, l, hs, hc⟩
  · rintro ⟨s, l, hs, hc⟩
    exact ⟨(List.getElem?_eq_some_iff.1 hs).1, by rw [hs]; simp [hc]⟩
end Go.Dsk0
namespace Go.Proofs.Ytmbkmfpnjpkakaa
open Go.RowKit Go.Im Go.Dsk0

/-- A slice of ints that came in. -/
def IntsAt (w : World) (v : Value) (ps : List Int) (ok : Nat → Prop) : Prop :=
  ∃ a c, v = .slice a ps.length c ∧ ps.length ≤ 9223372036854775807 ∧ (ps = [] ∨ ∃ b o, a = some ⟨b, o, none⟩ ∧ b < w.heap.size ∧ ok b ∧ ∀ (j : Nat) (x : Int), ps[j]? = some x → w.cell? ⟨b, o + j, none⟩ = some (.int .i64 x))

/-- A pending sector of the disk settled: its durable content. -/
theorem DurAt.cutOne {w w' : World} {bd : Nat} {D : Dsk} {i n : Nat} {s : Sec} {l : List UInt8} (h : DurAt w (some ⟨bd, 0, none⟩) bd D) (hs : D[i]? = some s) (hl : s.cac = some l) (hlen : l.length = 64) (hn : n ≤ 64)
    {cs : Array Value} (hcs : w.heap[bd]? = some (.cells cs 126 (0, 0))) (hw : w'.heap[bd]? = some (.cells (splice cs (i * 64) ((l.take n).map B)) 126 (0, 0))) : DurAt w' (some ⟨bd, 0, none⟩) bd (D.modify i fun s => Dsk0.cutOne s n) := by
  have hil : i < D.length := (List.getElem?_eq_some_iff.1 hs).1
  rcases h with h | ⟨_, cs', hb, hsz, hd⟩
  · rw [h] at hil; simp at hil
  · rw [hcs] at hb; cases hb
    have hcl : ((l.take n).map B).length = n := by simp; omega
    have hfit : i * 64 + ((l.take n).map B).length ≤ cs.size := by rw [hcl]; omega
    refine .inr ⟨rfl, _, hw, by rw [List.length_modify, splice_size]; exact hsz, fun k t ht j hj => ?_⟩
    rw [List.getElem?_modify] at ht
    rw [splice_get _ _ _ hfit, hcl]
    cases hq : D[k]? with
    | none => simp [hq] at ht
    | some u =>
      have hold := hd k u hq j hj
      by_cases hik : i = k
      · subst hik
        rw [hs] at hq; cases hq
        simp [hs] at ht
        subst ht
        unfold Dsk0.cutOne
        rw [hl]
        simp only
        by_cases hjn : j < n
        · rw [if_pos (by omega), show i * 64 + j - i * 64 = j by omega, List.getElem?_map, List.getElem?_append_left (by simp; omega), List.getElem?_take_of_lt hjn]
        · rw [if_neg (by omega), hold, List.getElem?_append_right (by simp; omega), List.getElem?_drop]
          simp only [List.length_take, hlen]
          rw [show n + (j - min n 64) = j by omega]
      · simp [hq, hik] at ht
        subst ht
        rw [if_neg (by omega), hold]
theorem cacheF_cutOne {D : Dsk} {i n : Nat} (hi : i < D.length) : cacheF (D.modify i fun s => Dsk0.cutOne s n) = upd (cacheF D) i none := by
  rw [cacheF_eq, cacheF_eq]
  have := secF_modify (G := fun s => s.cac.map secV) (D := D) (i := (i : Int)) (f := fun s => Dsk0.cutOne s n) (v := none) (by omega) (by omega) (fun s _ => by
    unfold Dsk0.cutOne
    cases hq : s.cac with
    | none => simp [hq]
    | some c => rfl)
  simpa using this

set_option maxRecDepth 100000 in
set_option maxHeartbeats 2000000 in
theorem cut_raw (g bd bc ba : Nat) (D : Dsk) (w : World) (h : DiskAt w g bd bc ba D) (hD : D ≠ []) (pv : Value) (ps : List Int) (hp : IntsAt w pv ps (fun b => ¬ foot bd bc ba b)) :
    Calls Try.prog 33 #[.pointer (some ⟨g, 0, none⟩), pv] w fun e w' => e = .returned (.tuple #[]) ∧ DurAt w' (some ⟨bd, 0, none⟩) bd (Dsk0.settle ps 0 (pend D) D) ∧ At w' bc (cacheF (Dsk0.settle ps 0 (pend D) D)) ∧ At w' ba (fun _ => none) ∧ Fr (foot bd bc ba) w w' := by
  obtain ⟨pa, pc, rfl, hpl, hps⟩ := hp
  obtain ⟨av, cap, c0, c1, c2, hg, hcap, hd⟩ := h.open_
  obtain ⟨g1, g2, g3⟩ := h.gne
  have hav : av = some ⟨bd, 0, none⟩ := by
    rcases hd with hd | hd
    · exact (hD hd).elim
    · exact hd.1
  subst hav
  have hglt := h.glt
  have hbclt := h.cache.lt
  have hbalt := h.armed.lt
  have hbdlt : bd < w.heap.size := by obtain ⟨cs', h', _⟩ := hd.block hD; exact lt_of_blk h'
  have Hm := Lib.hid h.cache
  have Ha := Lib.hid h.armed
  have Hd := Lib.hid hd; clear hd
  have HD := Lib.hid hD; clear hD
  have G3 := Lib.hid (g3 HD.out); clear g3
  have Hps := Lib.hid hps; clear hps
  have H := Lib.hid h; clear h
  obtain ⟨L, hL⟩ : ∃ L, L = pend D := ⟨_, rfl⟩
  have HLe := Lib.hid hL; clear hL
  go_enter Try.func33, Try.ntmps33
  go_wp2_with fail
  refine (pending_calls g bd bc ba D w H.out).mono ?_; rintro e w1 ⟨v, rfl, hrow, f1⟩
  have hrow' : ∃ va vc, v = .slice va L.length vc ∧ (L = [] ∨ ∃ gb, va = some ⟨gb, 0, none⟩ ∧ w.heap.size ≤ gb ∧ gb < w1.heap.size ∧ ∀ (j x : Nat), L[j]? = some x → w1.cell? ⟨gb, j, none⟩ = some (.int .i64 x)) := by
    have hll : (pendI D).length = L.length := by rw [HLe.out]; simp [pendI]
    obtain ⟨h1, h2 | ⟨gb, vc, cur, h2, h3, h4, h5, h6, h7, h8⟩⟩ := hrow
    · refine ⟨none, 0, ?_, .inl (List.eq_nil_of_length_eq_zero (by omega))⟩
      rw [h2.1]; congr 1; omega
    · refine ⟨_, vc, by rw [h2, hll], .inr ⟨gb, rfl, h3, lt_of_blk h4, fun j x hx => ?_⟩⟩
      have hj : j < (pendI D).length := by rw [hll]; exact (List.getElem?_eq_some_iff.1 hx).1
      rw [cell_of_blk h4]
      have : (cur.toList.take ((pendI D).length * 1))[j]? = some (.int .i64 x) := by
        rw [h8, List.getElem?_map]
        unfold pendI
        rw [List.getElem?_map, ← HLe.out, hx]; rfl
      rw [List.getElem?_take_of_lt (by omega)] at this
      simpa using this
  clear hrow
  obtain ⟨va, vc, rfl, hva⟩ := hrow'
  have HVA := Lib.hid hva; clear hva
  have hLlen : L.length ≤ 65536 := by
    rw [HLe.out]
    have := H.out.ok.len
    refine Nat.le_trans (List.length_filter_le _ _) (by simpa using this)
  go_wp2_with fail
  have hf1 := f1.size
  go_loopg [10] L.length (fun n t wr => ∃ k : Nat, n + k = L.length ∧ t = .int .i64 k ∧ At wr bc (cacheF (Dsk0.settle ps 0 (L.take k) D)) ∧ DurAt wr (some ⟨bd, 0, none⟩) bd (Dsk0.settle ps 0 (L.take k) D) ∧ Fr (fun k => k = bd ∨ k = bc) w1 wr)
  case atStart => exact ⟨0, rfl, rfl, by simpa [Dsk0.settle] using Hm.out.same (f1.block bc hbclt (fun h => h)), by simpa [Dsk0.settle] using Hd.out.fr f1 (fun _ h => h), Fr.refl _ _⟩
  case round =>
    obtain ⟨k, hn, rfl, hat, hdur, hfr⟩ := hrel
    have HN := Lib.hid hn; clear hn
    have HAT := Lib.hid hat; clear hat
    have HDUR := Lib.hid hdur; clear hdur
    have hrs := hfr.size
    have hG := G3.out
    have c0r : wr.cell? ⟨g, 0, none⟩ = some (.slice (some ⟨bd, 0, none⟩) D.length cap) := ((hfr.cb (by omega) (by omega)).trans (f1.cb hglt (fun h => h))).trans c0
    have c1r : wr.cell? ⟨g, 1, none⟩ = some (.map (some bc)) := ((hfr.cb (by omega) (by omega)).trans (f1.cb hglt (fun h => h))).trans c1
    have c2r : wr.cell? ⟨g, 2, none⟩ = some (.map (some ba)) := ((hfr.cb (by omega) (by omega)).trans (f1.cb hglt (fun h => h))).trans c2
    by_cases hk : k < L.length
    · obtain ⟨i, hi⟩ : ∃ i, L[k]? = some i := ⟨_, List.getElem?_eq_getElem hk⟩
      have hmem : i ∈ pend D := by rw [← HLe.out]; exact List.mem_of_getElem? hi
      obtain ⟨s, l, hs, hl⟩ := pend_mem.1 hmem
      have hilt : i < D.length := (List.getElem?_eq_some_iff.1 hs).1
      have hll : l.length = 64 := H.out.ok.cac s (List.mem_of_getElem? hs) l hl
      have hsk : (Dsk0.settle ps 0 (L.take k) D)[i]? = some s := by
        rw [settle_get_out _ _ _ _ _ (fun hm => ?_)]
        · exact hs
        · obtain ⟨j, hj⟩ := List.mem_iff_getElem?.1 hm
          rw [List.getElem?_take] at hj
          split at hj
          · rename_i hjk
            have hnd := pend_nodup D
            rw [← HLe.out] at hnd
            have := (List.getElem?_inj (l := L) (i := j) (j := k) (by omega) hnd).1 (hj.trans hi.symm)
            omega
          · cases hj
      have hci : cacheF (Dsk0.settle ps 0 (L.take k) D) i = some (.agg (cellsB l)) := by
        rw [cacheF_eq, secF_at (by omega), Int.toNat_natCast, hsk]; simp [hl, secV]
      have hsn : Dsk0.settle ps 0 (L.take (k + 1)) D = (Dsk0.settle ps 0 (L.take k) D).modify i fun s => Dsk0.cutOne s (clamp ((ps[k]?).getD 0)) := by
        rw [List.take_add_one, hi]
        simp only [Option.toList_some]
        rw [settle_snoc]
        simp only [List.length_take, Nat.zero_add]
        rw [show min k L.length = k by omega]
      obtain ⟨gb, rfl, hgb1, hgb2, hgbc⟩ := (HVA.out.resolve_left (fun e => by rw [e] at hk; simp at hk))
      have hcL : wr.cell? ⟨gb, k, none⟩ = some (.int .i64 i) := (hfr.cb hgb2 (by omega)).trans (hgbc k i hi)
      have HCI := Lib.hid hci; clear hci
      have HSN := Lib.hid hsn; clear hsn
      have HSK := Lib.hid hsk; clear hsk
      have HS := Lib.hid hs; clear hs
      have HL := Lib.hid hl; clear hl
      have HLL := Lib.hid hll; clear hll
      have HIK := Lib.hid hi; clear hi
      have hlenK : (Dsk0.settle ps 0 (L.take k) D).length = D.length := settle_length _ _ _ _
      obtain ⟨cs, hcs⟩ := HDUR.out.block (fun e => by rw [e] at hlenK; simp at hlenK; omega)
      have HLK := Lib.hid hlenK; clear hlenK
      have CS := Lib.hid hcs; clear hcs
      have i0 : (0 : Int) ≤ i := by omega
      have i1 : (i : Int) < D.length := by omega
      clear hgbc hmem
      by_cases hkp : k < ps.length
      · obtain ⟨p, hp⟩ : ∃ p, ps[k]? = some p := ⟨_, List.getElem?_eq_getElem hkp⟩
        obtain ⟨pb, po, rfl, hpb1, hpb2, hpb3⟩ := (Hps.out.resolve_left (fun e => by rw [e] at hkp; simp at hkp))
        have hcp : wr.cell? ⟨pb, po + k, none⟩ = some (.int .i64 p) := ((hfr.cb (by omega) (fun h => hpb2 (h.elim .inl (fun h => .inr (.inl h))))).trans (f1.cb hpb1 (fun h => h))).trans (hpb3 k p hp)
        have hcl : clamp ((ps[k]?).getD 0) = clamp p := by rw [hp]; rfl
        have HCL := Lib.hid hcl; clear hcl
        have hpn : pb ≠ bd ∧ pb ≠ bc := ⟨fun h => hpb2 (.inl h), fun h => hpb2 (.inr (.inl h))⟩
        have HPN := Lib.hid hpn; clear hpn
        clear hpb2 hpb3 hp
        have hkp' : (k : Int) < ps.length := by omega
        obtain ⟨q, hq⟩ : ∃ q, q = clamp p := ⟨_, rfl⟩
        have hq64 : q ≤ 64 := by rw [hq]; exact clamp_le p
        have hmm : min (max p 0) 64 = (q : Int) := by rw [hq]; unfold clamp; omega
        have HQ := Lib.hid hq; clear hq
        have q0 : (0 : Int) ≤ q := by omega
        have q1 : (q : Int) ≤ 64 := by omega
        go_wp2_with (first
          | (at_lookup; refine im_lookup_v rfl _ _ 116 rfl mt116 kt (zero126 _) i rfl rfl HAT.out (.agg (cellsB l)) (by rw [HCI.out]; rfl) ?_)
          | (refine im_alloc_row rfl 126 rfl (zero126 _) ?_; intro w3 b3 f3 z3; have B3 := Lib.hid b3; clear b3; have Z3 := Lib.hid z3; clear z3)
          | (refine im_store_row rfl 126 _ _ rfl rfl rfl B3.out (by rw [cellsB_size, HLL.out, z64_size]) (info126' HLL.out) (cellsB_one _) ?_; intro w4 b4 f4 z4; have B4 := Lib.hid b4; clear b4; have Z4 := Lib.hid z4; clear z4))
        have hz3 := Z3.out
        have hz4 := Z4.out
        have hpn := HPN.out
        have hpbw : pb < wr.heap.size := Nat.lt_of_lt_of_le (Nat.lt_of_lt_of_le hpb1 hf1) hrs
        have c04 : w4.cell? ⟨g, 0, none⟩ = some (.slice (some ⟨bd, 0, none⟩) D.length cap) := ((f4.cb (by omega) (by omega)).trans (f3.cb (by omega) (fun h => h))).trans c0r
        have c14 : w4.cell? ⟨g, 1, none⟩ = some (.map (some bc)) := ((f4.cb (by omega) (by omega)).trans (f3.cb (by omega) (fun h => h))).trans c1r
        have cp4 : w4.cell? ⟨pb, po + k, none⟩ = some (.int .i64 p) := ((f4.cb (by omega) (by omega)).trans (f3.cb (by omega) (fun h => h))).trans hcp
        have hb4 : w4.heap[bd]? = some (.cells cs 126 (0, 0)) := (f4.block bd (by omega) (by omega)).trans ((f3.block bd (by omega) (fun h => h)).trans CS.out.1)
        have HB4 := Lib.hid hb4; clear hb4
        have hcs2 := CS.out.2
        rw [HLK.out] at hcs2
        clear hz3 hz4 hpn hpbw
        go_still_tail 14, (by kernel_rfl)
        change wpList _ _ _ _ _ w4.drew
        refine im_copy rfl _ _ 70 70 rfl u70 (by kernel_rfl) (w := w4.drew) rfl rfl ((l.take q).map B) (by rw [List.length_map, List.length_take, HLL.out]) HB4.out (by simp; have := HLL.out; omega) B4.out (fun j v hv => by
          rw [Nat.zero_add, cellsB_get, ← List.getElem?_map]
          rw [List.map_take, List.getElem?_take] at hv
          split at hv
          · exact hv
          · cases hv) (fun v hv => by
          obtain ⟨x, _, rfl⟩ := List.mem_map.1 hv; exact B_one x) ?_
        intro w5 b5 f5 z5
        have B5 := Lib.hid b5; clear b5
        replace f5 := f5.undrew
        have hz3 := Z3.out
        have hz4 := Z4.out
        have hz5 : w5.heap.size = w4.heap.size := z5.out
        have c15 : w5.cell? ⟨g, 1, none⟩ = some (.map (some bc)) := (f5.cb (by omega) (by omega)).trans c14
        have hat5 : At w5 bc (cacheF (Dsk0.settle ps 0 (L.take k) D)) := HAT.out.same ((f5.block bc (by omega) (by omega)).trans ((f4.block bc (by omega) (by omega)).trans (f3.block bc (by omega) (fun h => h))))
        have HAT5 := Lib.hid hat5; clear hat5
        have hcut : DurAt w5 (some ⟨bd, 0, none⟩) bd ((Dsk0.settle ps 0 (L.take k) D).modify i fun s => Dsk0.cutOne s q) := DurAt.cutOne HDUR.out HSK.out HL.out HLL.out hq64 CS.out.1 B5.out
        have HCUT := Lib.hid hcut; clear hcut
        clear hz3 hz4 hz5 c04 cp4 c14
        go_wp2_with (first
          | (at_delete; refine im_delete rfl _ _ 116 _ rfl mt116 kt i rfl rfl HAT5.out ?_; intro w6 h6 f6 z6; have H6 := Lib.hid h6; clear h6; have Z6 := Lib.hid z6; clear z6))
        have hz3 := Z3.out
        have hz4 := Z4.out
        have hz5 : w5.heap.size = w4.heap.size := z5.out
        have hz6 := Z6.out
        have hn : gk + k = L.length := HN.out
        go_roundg (gk - 1)
        case measure => omega
        case rel =>
          have hq' : clamp ((ps[k]?).getD 0) = q := by rw [HCL.out, HQ.out]
          refine ⟨k + 1, by omega, by go_num, ?_, ?_, ?_⟩
          · rw [HSN.out, cacheF_cutOne (by rw [HLK.out]; exact hilt)]; exact H6.out
          · rw [HSN.out, hq']; exact HCUT.out.fr f6 (fun _ => hG.2.1)
          · have g1' : Fr (fun i => i = wr.heap.size) wr w4 := f3.trans' f4 (fun _ _ h => h.elim) (fun _ _ h => h)
            exact ((hfr.trans' g1' (U := fun k => k = bd ∨ k = bc) (fun _ _ h => h) (fun i hi h => by omega)).trans' f5 (fun _ _ h => h) (fun _ _ h => .inl h)).trans' f6 (fun _ _ h => h) (fun _ _ h => .inr h)
      · have hkp' : (ps.length : Int) ≤ k := by omega
        have hz : clamp ((ps[k]?).getD 0) = 0 := by rw [List.getElem?_eq_none (by omega)]; rfl
        have hcut : DurAt wr (some ⟨bd, 0, none⟩) bd ((Dsk0.settle ps 0 (L.take k) D).modify i fun s => Dsk0.cutOne s 0) := DurAt.cutOne HDUR.out HSK.out HL.out HLL.out (Nat.zero_le _) CS.out.1 CS.out.1
        have HCUT := Lib.hid hcut; clear hcut
        have HZ := Lib.hid hz; clear hz
        go_wp2_with (first
          | (at_delete; refine im_delete rfl _ _ 116 _ rfl mt116 kt i rfl rfl HAT.out ?_; intro w6 h6 f6 z6; have H6 := Lib.hid h6; clear h6; have Z6 := Lib.hid z6; clear z6))
        have hn : gk + k = L.length := HN.out
        go_roundg (gk - 1)
        case measure => omega
        case rel =>
          refine ⟨k + 1, by omega, by go_num, ?_, ?_, ?_⟩
          · rw [HSN.out, cacheF_cutOne (by rw [HLK.out]; exact hilt)]; exact H6.out
          · rw [HSN.out, HZ.out]; exact HCUT.out.fr f6 (fun _ => hG.2.1)
          · exact hfr.trans' f6 (fun _ _ h => h) (fun _ _ h => .inr h)
    · have hne := H.out.ne
      have hA : At wr ba (armF D) := Ha.out.same ((hfr.block ba (by omega) (by omega)).trans (f1.block ba hbalt (fun h => h)))
      have HA := Lib.hid hA; clear hA
      go_wp2_with (first
        | (refine im_clear rfl _ 117 rfl mt117 rfl HA.out ?_; intro w3 h3 f3 z3; have H3 := Lib.hid h3; clear h3; clear z3))
      go_end0
      have hkl : L.take k = pend D := by rw [HLe.out] at hk ⊢; exact List.take_of_length_le (by omega)
      have hat := HAT.out
      have hdur := HDUR.out
      rw [hkl] at hat hdur
      refine ⟨rfl, hdur.fr f3 (fun _ => hG.2.2), hat.same (f3.block bc (by omega) hne), H3.out, ?_⟩
      exact (f1.trans' hfr (U := foot bd bc ba) (fun _ _ h => h.elim) (fun i _ h => h.elim (fun h => by subst h; exact foot_d _ _ _) (fun h => by subst h; exact foot_c _ _ _))).trans' f3 (fun _ _ h => h) (fun i _ h => by subst h; exact foot_a _ _ _)

set_option maxRecDepth 100000 in
theorem cut_empty (g bd bc ba : Nat) (w : World) (h : DiskAt w g bd bc ba []) (pv : Value) :
    Calls Try.prog 33 #[.pointer (some ⟨g, 0, none⟩), pv] w fun e w' => e = .returned (.tuple #[]) ∧ At w' ba (fun _ => none) ∧ Fr (fun k => k = ba) w w' := by
  obtain ⟨av, cap, c0, c1, c2, hg, hcap, hd⟩ := h.open_
  obtain ⟨g1, g2, g3⟩ := h.gne
  have hglt := h.glt
  have hbalt := h.armed.lt
  have Ha := Lib.hid h.armed
  have H := Lib.hid h; clear h
  go_enter Try.func33, Try.ntmps33
  go_wp2_with fail
  refine (pending_calls g bd bc ba [] w H.out).mono ?_; rintro e w1 ⟨v, rfl, hrow, f1⟩
  have hrow' : ∃ va vc, v = .slice va 0 vc := by
    obtain ⟨h1, h2 | ⟨gb, vc, cur, h2, _⟩⟩ := hrow
    · exact ⟨_, _, h2.1⟩
    · exact ⟨_, _, h2⟩
  clear hrow
  obtain ⟨va, vc, rfl⟩ := hrow'
  have c21 : w1.cell? ⟨g, 2, none⟩ = some (.map (some ba)) := (f1.cb hglt (fun h => h)).trans c2
  have hA : At w1 ba (armF []) := Ha.out.same (f1.block ba hbalt (fun h => h))
  have HA := Lib.hid hA; clear hA
  go_wp2_with fail
  go_loopg [10] 0 (fun n t wr => t = .int .i64 0 ∧ w1 = wr)
  case atStart => exact ⟨rfl, rfl⟩
  case round =>
    obtain ⟨rfl, rfl⟩ := hrel
    go_wp2_with (first
      | (refine im_clear rfl _ 117 rfl mt117 rfl HA.out ?_; intro w3 h3 f3 z3; have H3 := Lib.hid h3; clear h3; clear z3))
    go_end0
    exact ⟨rfl, H3.out, f1.trans' f3 (fun _ _ h => h.elim) (fun _ _ h => h)⟩

/-- Cut: the power fails. -/
theorem cut_calls (g bd bc ba : Nat) (D : Dsk) (w : World) (h : DiskAt w g bd bc ba D) (pv : Value) (ps : List Int) (hp : IntsAt w pv ps (fun b => ¬ foot bd bc ba b)) :
    Calls Try.prog 33 #[.pointer (some ⟨g, 0, none⟩), pv] w fun e w' => e = .returned (.tuple #[]) ∧ DiskAt w' g bd bc ba (cut D ps) ∧ Fr (foot bd bc ba) w w' := by
  obtain ⟨av, cap, c0, c1, c2, hg, hcap, hd⟩ := h.open_
  obtain ⟨g1, g2, g3⟩ := h.gne
  have hlen : (cut D ps).length = D.length := by simp [cut, unarm, settle_length]
  have han : armF (cut D ps) = fun _ => none := by
    funext k
    unfold armF cut unarm
    split
    · rw [List.getElem?_map]; cases (Dsk0.settle ps 0 (pend D) D)[k.toNat]? <;> rfl
    · rfl
  have hcn : cacheF (cut D ps) = cacheF (Dsk0.settle ps 0 (pend D) D) := by
    funext k
    unfold cacheF cut unarm
    split
    · rw [List.getElem?_map]; cases (Dsk0.settle ps 0 (pend D) D)[k.toNat]? <;> rfl
    · rfl
  by_cases hD : D = []
  · subst hD
    refine (cut_empty g bd bc ba w h pv).mono ?_
    rintro e w' ⟨rfl, hA, f⟩
    refine ⟨rfl, ⟨h.ok.cut ps, ⟨av, cap, ?_, by rw [hlen]; exact hcap, .inl rfl⟩, ?_, ?_, h.ne⟩, f.mono fun k _ hk => by subst hk; exact foot_a _ _ _⟩
    · rw [hlen]; exact (f.block g (lt_of_blk hg) g2).trans hg
    · rw [hcn]; exact h.cache.same (f.block bc h.cache.lt h.ne)
    · rw [han]; exact hA
  · refine (cut_raw g bd bc ba D w h hD pv ps hp).mono ?_
    rintro e w' ⟨rfl, hdu, hC, hA, f⟩
    have hav : av = some ⟨bd, 0, none⟩ := by
      rcases hd with hd | hd
      · exact (hD hd).elim
      · exact hd.1
    subst hav
    refine ⟨rfl, ⟨h.ok.cut ps, ⟨some ⟨bd, 0, none⟩, cap, ?_, by rw [hlen]; exact hcap, ?_⟩, ?_, ?_, h.ne⟩, f⟩
    · rw [hlen]; exact (f.block g (lt_of_blk hg) (fun e => e.elim (g3 hD).1 (fun e => e.elim g1 g2))).trans hg
    · exact hdu.same (by simp [cut, unarm]) (fun i s' hs => by
        unfold cut unarm at hs
        rw [List.getElem?_map] at hs
        cases hq : (Dsk0.settle ps 0 (pend D) D)[i]? with
        | none => simp [hq] at hs
        | some s => simp [hq] at hs; exact ⟨s, rfl, by rw [← hs]⟩)
    · rw [hcn]; exact hC
    · rw [han]; exact hA

end Go.Proofs.Ytmbkmfpnjpkakaa
