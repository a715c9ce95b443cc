/- The program's disk: Flush. -/
import Derived.Test.YtmbkmfpnjpkakaaD5
import Derived.Deep.LoopGhost
namespace Go.Im
theorem nodup_length {α : Type} [DecidableEq α] : ∀ (l m : List α), l.Nodup → (∀ x ∈ l, x ∈ m) → l.length ≤ m.length
  | [], _, _, _ => Nat.zero_le _
  | x :: l, m, hn, hs => by
    have hx : x ∈ m := hs x (by simp)
    have h := nodup_length l (m.erase x) (List.nodup_cons.1 hn).2 (fun y hy => by
      have hne : y ≠ x := fun e => (List.nodup_cons.1 hn).1 (e ▸ hy)
      exact (List.mem_erase_of_ne hne).2 (hs y (by simp [hy])))
    rw [List.length_erase_of_mem hx] at h
    have : 0 < m.length := List.length_pos_of_mem hx
    simp only [List.length_cons]
    omega
open Go.RowKit in
theorem im_next_h {P : Program} {ops : Array Oper} {rest : List Oper} {o : Oper} {a : Act} {w : World} {Q : Exit → Act → World → Prop} (hg : o.guard = none) (m : Operand) (hop : o.op = Op.next m false)
    {r b : Nat} {f ks} (hm : a.eval m = .pointer (some ⟨r, 0, none⟩)) (h : Iter w r b f ks)
    (hK1 : ∀ w', Hid (∀ k, (f k).isSome = true → k ∈ ks) → Fr (fun _ => False) w w' → Hid (w'.heap = w.heap) → wpList P ops Q rest (a.put o.dst (.tuple #[.bool false])) w')
    (hK2 : ∀ w' k v, Hid (f k = some v) → Hid (k ∉ ks) → Hid (IterAt w' r b f (ks ++ [k]) k v) → Fr (fun i => i = r) w w' → Hid (w'.heap.size = w.heap.size) → wpList P ops Q rest (a.put o.dst (.tuple #[.bool true, .int .i64 k, v])) w') :
    wpList P ops Q (o :: rest) a w := im_next hg m hop hm h hK1 hK2
end Go.Im
namespace Go.Dsk0
/-- The sectors whose numbers are in ks have been made durable. -/
def flushP (D : Dsk) (ks : List Int) : Dsk := D.mapIdx fun i s => if (i : Int) ∈ ks then { s with dur := cont s } else s
theorem flushP_get (D : Dsk) (ks : List Int) (i : Nat) : (flushP D ks)[i]? = (D[i]?).map fun s => if (i : Int) ∈ ks then { s with dur := cont s } else s := by
  simp [flushP, List.getElem?_mapIdx]
theorem flushP_nil (D : Dsk) : flushP D [] = D := by
  apply List.ext_getElem?; intro i; rw [flushP_get]; simp
theorem flushP_length (D : Dsk) (ks : List Int) : (flushP D ks).length = D.length := by simp [flushP]
theorem flush_get (D : Dsk) (i : Nat) : (flush D)[i]? = (D[i]?).map fun s => { s with dur := cont s, cac := none } := by simp [flush]
end Go.Dsk0
namespace Go.Proofs.Ytmbkmfpnjpkakaa
open Go.RowKit Go.Im Go.Dsk0

theorem cacheF_some {D : Dsk} {k : Int} {v : Value} (h : cacheF D k = some v) : 0 ≤ k ∧ k < D.length ∧ ∃ s l, D[k.toNat]? = some s ∧ s.cac = some l ∧ v = .agg (cellsB l) := by
  unfold cacheF at h
  split at h
  · rename_i h0
    cases hs : D[k.toNat]? with
    | none => simp [hs] at h
    | some s =>
      cases hc : s.cac with
      | none => simp [hs, hc] at h
      | some l =>
        simp [hs, hc, secV] at h
        have := (List.getElem?_eq_some_iff.1 hs).1
        exact ⟨h0, by omega, s, l, rfl, hc, h.symm⟩
  · cases h

/-- One more sector made durable. -/
theorem DurAt.flushP {w w' : World} {bd : Nat} {D : Dsk} {ks : List Int} {k : Int} {s : Sec} {l : List UInt8} (h : DurAt w (some ⟨bd, 0, none⟩) bd (flushP D ks)) (k0 : 0 ≤ k) (hs : D[k.toNat]? = some s) (hl : s.cac = some l) (hlen : l.length = 64)
    {cs : Array Value} (hcs : w.heap[bd]? = some (.cells cs 126 (0, 0))) (hw : w'.heap[bd]? = some (.cells (splice cs (k.toNat * 64) (cellsB l).toList) 126 (0, 0))) : DurAt w' (some ⟨bd, 0, none⟩) bd (flushP D (ks ++ [k])) := by
  have hkl : k.toNat < D.length := (List.getElem?_eq_some_iff.1 hs).1
  rcases h with h | ⟨_, cs', hb, hsz, hd⟩
  · have := flushP_length D ks
    rw [h] at this; simp at this; omega
  · rw [hcs] at hb; cases hb
    rw [flushP_length] at hsz
    have hcl : (cellsB l).toList.length = 64 := by simp [cellsB, hlen]
    have hfit : k.toNat * 64 + (cellsB l).toList.length ≤ cs.size := by rw [hcl]; omega
    refine .inr ⟨rfl, _, hw, by rw [flushP_length, splice_size]; exact hsz, fun i t ht j hj => ?_⟩
    rw [flushP_get] at ht
    rw [splice_get _ _ _ hfit, hcl]
    cases hq : D[i]? with
    | none => simp [hq] at ht
    | some u =>
      rw [hq] at ht
      simp only [Option.map_some, Option.some.injEq, List.mem_append, List.mem_singleton] at ht
      have hold := hd i _ (by rw [flushP_get, hq]; rfl) j hj
      by_cases hik : i = k.toNat
      · subst hik
        rw [hs] at hq; cases hq
        have hki : ((k.toNat : Nat) : Int) = k := by omega
        rw [if_pos (by omega)]
        rw [if_pos (by right; exact hki)] at ht
        subst ht
        have : cont s = l := by unfold cont; rw [hl]; rfl
        simp only [this]
        rw [show k.toNat * 64 + j - k.toNat * 64 = j by omega, Array.getElem?_toList, cellsB_get]
      · rw [if_neg (by omega), hold]
        have e : ((i : Int) ∈ ks ∨ (i : Int) = k) ↔ (i : Int) ∈ ks := ⟨fun h => h.elim id (fun h => by omega), .inl⟩
        simp only [e] at ht
        subst ht; rfl

theorem DurAt.block {w : World} {bd : Nat} {D : Dsk} (h : DurAt w (some ⟨bd, 0, none⟩) bd D) (hD : D ≠ []) : ∃ cs, w.heap[bd]? = some (.cells cs 126 (0, 0)) ∧ D.length * 64 ≤ cs.size := by
  rcases h with h | ⟨_, cs, h1, h2, _⟩
  · exact (hD h).elim
  · exact ⟨cs, h1, h2⟩
theorem flushP_ne {D : Dsk} (ks : List Int) (h : D ≠ []) : flushP D ks ≠ [] := fun e => h (List.eq_nil_of_length_eq_zero (by rw [← flushP_length D ks, e]; rfl))

set_option maxRecDepth 100000 in
theorem flush_raw (g bd bc ba : Nat) (D : Dsk) (w : World) (h : DiskAt w g bd bc ba D) (hD : D ≠ []) :
    Calls Try.prog 32 #[.pointer (some ⟨g, 0, none⟩)] w fun e w' => e = .returned (.tuple #[]) ∧ ∃ ks, (∀ k, (cacheF D k).isSome = true → k ∈ ks) ∧ DurAt w' (some ⟨bd, 0, none⟩) bd (flushP D ks) ∧ At w' bc (fun _ => none) ∧ Fr (fun k => k = bd ∨ k = bc) w w' := by
  obtain ⟨av, cap, c0, c1, c2, hg, hcap, hd⟩ := h.open_
  obtain ⟨g1, g2, g3⟩ := h.gne
  have hav : av = some ⟨bd, 0, none⟩ := by
    rcases hd with hd | hd
    · exact (hD hd).elim
    · exact hd.1
  subst hav
  have Hm := Lib.hid h.cache
  have Hd := Lib.hid hd; clear hd
  have HD := Lib.hid hD; clear hD
  have Hg := Lib.hid hg; clear hg
  have H := Lib.hid h; clear h
  clear c2
  go_enter Try.func32, Try.ntmps32
  go_wp2_with (first
    | (at_range; refine im_range rfl _ 116 rfl mt116 rfl Hm.out ?_; intro w1 i1 f1 z1; have I1 := Lib.hid i1; clear i1; have Z1 := Lib.hid z1; clear z1))
  go_frame
  have hz1 := Z1.out
  have hbc := Hm.out.lt
  have hglt := H.out.glt
  go_loopg [] D.length (fun n wr => ∃ ks : List Int, n + ks.length = D.length ∧ ks.Nodup ∧ (∀ k ∈ ks, 0 ≤ k ∧ k < D.length) ∧ Iter wr w.heap.size bc (cacheF D) ks ∧ DurAt wr (some ⟨bd, 0, none⟩) bd (flushP D ks) ∧ Fr (fun k => k = bd ∨ k = w.heap.size) w1 wr)
  case atStart => exact ⟨[], by simp, by simp, by simp, I1.out, by rw [flushP_nil]; exact Hd.out.fr f1 (fun _ h => h), Fr.refl _ _⟩
  case round =>
    obtain ⟨ks, hn, hnd, hin, hit, hdur, hfr⟩ := hrel
    have HN := Lib.hid hn; clear hn
    have HND := Lib.hid hnd; clear hnd
    have HIN := Lib.hid hin; clear hin
    have HIT := Lib.hid hit; clear hit
    have HDUR := Lib.hid hdur; clear hdur
    have c0r : wr.cell? ⟨g, 0, none⟩ = some (.slice (some ⟨bd, 0, none⟩) D.length cap) := ((hfr.cb (by omega) (by have := g3 HD.out; omega)).trans (f1.cb hglt (fun h => h))).trans c0
    have c1r : wr.cell? ⟨g, 1, none⟩ = some (.map (some bc)) := ((hfr.cb (by omega) (by have := g3 HD.out; omega)).trans (f1.cb hglt (fun h => h))).trans c1
    have hrs := hfr.size
    obtain ⟨cs, hcs⟩ := HDUR.out.block (flushP_ne ks HD.out)
    have CS := Lib.hid hcs; clear hcs
    have hbdw : bd < w.heap.size := by obtain ⟨cs', h', _⟩ := Hd.out.block HD.out; exact lt_of_blk h'
    go_wp2_with (first
      | (at_next; refine im_next_h rfl _ rfl rfl HIT.out ?_ ?_
         (focus (intro w2 HALL f2 e2; have c1s : w2.cell? ⟨g, 1, none⟩ = some (.map (some bc)) := (f2.cb (by omega) (fun h => h)).trans c1r))
         rotate_left
         (focus (intro w2 k v hk hkn hia f2 z2; have c0s := (f2.cb (b := g) (o := 0) (by omega) (by omega)).trans c0r; obtain ⟨k0, k1, s, l, hs, hl, rfl⟩ := cacheF_some hk.out; have HS := Lib.hid hs; clear hs; have HL := Lib.hid (H.out.ok.cac s (List.mem_of_getElem? HS.out) l hl); have HC := Lib.hid hl; clear hl)))
      | (refine im_entry rfl _ rfl rfl hia.out ?_)
      | (refine im_alloc_row rfl 126 rfl (zero126 _) ?_; intro w3 b3 f3 z3; have B3 := Lib.hid b3; clear b3; have Z3 := Lib.hid z3; clear z3; have c03 := (f3.cb (b := g) (o := 0) (by have := z2.out; omega) (fun h => h)).trans c0s)
      | (refine im_store_row rfl 126 _ _ rfl rfl rfl B3.out (by rw [cellsB_size, HL.out, z64_size]) (info126' HL.out) (cellsB_one _) ?_; intro w4 b4 f4 z4; have B4 := Lib.hid b4; clear b4; have Z4 := Lib.hid z4; clear z4; have c04 := (f4.cb (b := g) (o := 0) (by have := z2.out; have := Z3.out; omega) (by have := z2.out; omega)).trans c03)
      | (refine im_clear rfl _ 116 rfl mt116 rfl (show At w2 bc (cacheF D) from HIT.out.at.same (by rw [e2.out])) ?_; intro w3 h3 f3 z3; have H3 := Lib.hid h3; clear h3; clear z3))
    · have hI : (Try.prog.info? 126).map (·.size) = some (cellsB l).toList.length := by rw [info126]; simp [cellsB, HL.out]
      have HI := Lib.hid hI; clear hI
      have hrun : (Instr.loadAt 126 (.pointer (some ⟨w2.heap.size, 0, none⟩))).run Try.prog w4.drew = .ok (.agg (cellsB l)) w4.drew := by
        have := run_loadAt_mid (P := Try.prog) w4.drew w2.heap.size 0 126 (cellsB l).toList _ (range_of_blk B4.out (fun j v hv => by rw [Nat.zero_add]; simpa using hv)) row126 rfl HI.out
        simpa only [Array.toArray_toList] using this
      have HR := Lib.hid hrun; clear hrun
      go_still_tail 7, (by kernel_rfl)
      refine still_by (by rfl) (by
        simp only [execOp, Sem.run_bind]
        exact congrArg (fun r => r.andThen fun a w' => Result.ok (Next.value a) w') HR.out) ?_
      simp only [Act.put, List.setIfInBounds_toArray, List.set_cons_zero, List.set_cons_succ]
      repeat still_step
      refine wpStill_nil ?_
      change wpList _ _ _ _ _ w4.drew
      have hz2 := z2.out
      have hz3 := Z3.out
      have hz4 := Z4.out
      have hbdl := lt_of_blk CS.out.1
      have hb4 : w4.heap[bd]? = some (.cells cs 126 (0, 0)) := (f4.block _ (by omega) (by omega)).trans ((f3.block _ (by omega) (fun h => h)).trans ((f2.block _ (by omega) (by omega)).trans CS.out.1))
      refine im_store_mid2 rfl 126 _ _ rfl (vs := cellsB l) rfl rfl (w := w4.drew) hb4 (by have := CS.out.2; rw [cellsB_size, HL.out]; rw [flushP_length] at this; omega) (info126' HL.out) (cellsB_one _) ?_
      intro w5 b5 f5 z5
      have B5 := Lib.hid b5; clear b5
      replace f5 := f5.undrew
      have Z5 := Lib.hid z5; clear z5
      clear hz2 hz3 hz4 hb4
      go_wp2_with fail
      have hz2 := z2.out
      have hz3 := Z3.out
      have hz4 := Z4.out
      have hz5 : w5.heap.size = w4.heap.size := Z5.out
      have hnd : (ks ++ [k]).Nodup := by
        rw [List.nodup_append]
        exact ⟨HND.out, by simp, fun a ha b hb hab => by simp only [List.mem_singleton] at hb; subst hb; subst hab; exact hkn.out ha⟩
      have hmem : ∀ x ∈ ks ++ [k], 0 ≤ x ∧ x < D.length := fun x hx => by
        rcases List.mem_append.1 hx with hx | hx
        · exact HIN.out x hx
        · simp only [List.mem_singleton] at hx; subst hx; exact ⟨k0, k1⟩
      have hle : (ks ++ [k]).length ≤ D.length := by
        have := nodup_length (ks ++ [k]) ((List.range D.length).map (fun i : Nat => (i : Int))) hnd (fun x hx => by
          obtain ⟨h1, h2⟩ := hmem x hx
          exact List.mem_map.2 ⟨x.toNat, List.mem_range.2 (by omega), by omega⟩)
        simpa using this
      have hlen : (ks ++ [k]).length = ks.length + 1 := by simp
      have hgk : gk + ks.length = D.length := HN.out
      go_roundg (gk - 1)
      case measure => omega
      case rel =>
        have hblt := HIT.out.at.lt
        have hilt := HIT.out.lt
        refine ⟨ks ++ [k], by omega, hnd, hmem, ?_, ?_, ?_⟩
        · exact hia.out.iter.same ((f5.block _ (by omega) (by have := (g3 HD.out).2.1; omega)).trans ((f4.block _ (by omega) (by omega)).trans (f3.block _ (by omega) (fun h => h)))) ((f5.block _ (by omega) (by omega)).trans ((f4.block _ (by omega) (by omega)).trans (f3.block _ (by omega) (fun h => h))))
        · exact DurAt.flushP HDUR.out k0 HS.out HC.out HL.out CS.out.1 B5.out
        · exact (hfr.trans' f2 (U := fun k => k = bd ∨ k = w.heap.size) (fun _ _ h => h) (fun _ _ h => .inr h)).trans' ((f3.trans' f4 (U := fun k => k = w2.heap.size) (fun _ _ h => h.elim) (fun _ _ h => h)).trans' f5 (U := fun k => k = w2.heap.size ∨ k = bd) (fun _ _ h => .inl h) (fun _ _ h => .inr h)) (fun _ _ h => h) (fun i hi h => h.elim (fun h => by omega) .inl)
    · go_end0
      have hdu : DurAt w3 (some ⟨bd, 0, none⟩) bd (flushP D ks) := (HDUR.out.fr f2 (fun _ h => h)).fr f3 (fun _ => (g3 HD.out).2.1)
      refine ⟨rfl, ks, HALL.out, hdu, H3.out, ?_⟩
      exact ((f1.trans' hfr (U := fun k => k = bd ∨ k = bc) (fun _ _ h => h.elim) (fun i hi h => h.elim .inl (fun h => by omega))).trans' f2 (fun _ _ h => h) (fun _ _ h => h.elim)).trans' f3 (fun _ _ h => h) (fun _ _ h => .inr h)

theorem cacheF_nil (k : Int) : cacheF [] k = none := by unfold cacheF; split <;> simp

set_option maxRecDepth 100000 in
theorem flush_empty (g bd bc ba : Nat) (w : World) (h : DiskAt w g bd bc ba []) :
    Calls Try.prog 32 #[.pointer (some ⟨g, 0, none⟩)] w fun e w' => e = .returned (.tuple #[]) ∧ At w' bc (fun _ => none) ∧ Fr (fun k => k = bc) w w' := by
  obtain ⟨av, cap, c0, c1, c2, hg, hcap, hd⟩ := h.open_
  obtain ⟨g1, g2, g3⟩ := h.gne
  have Hm := Lib.hid h.cache
  have hglt := h.glt
  clear c2 c0 hd hcap hg g3 h
  go_enter Try.func32, Try.ntmps32
  go_wp2_with (first
    | (at_range; refine im_range rfl _ 116 rfl mt116 rfl Hm.out ?_; intro w1 i1 f1 z1; have I1 := Lib.hid i1; clear i1; have Z1 := Lib.hid z1; clear z1))
  go_frame
  have hz1 := Z1.out
  have hbc := Hm.out.lt
  go_loopg [] 0 (fun n wr => Iter wr w.heap.size bc (cacheF []) [] ∧ Fr (fun k => k = w.heap.size) w1 wr)
  case atStart => exact ⟨I1.out, Fr.refl _ _⟩
  case round =>
    obtain ⟨hit, hfr⟩ := hrel
    have HIT := Lib.hid hit; clear hit
    have c1r : wr.cell? ⟨g, 1, none⟩ = some (.map (some bc)) := ((hfr.cb (by omega) (by omega)).trans (f1.cb hglt (fun h => h))).trans c1
    have hrs := hfr.size
    go_wp2_with (first
      | (at_next; refine im_next_h rfl _ rfl rfl HIT.out ?_ ?_
         (focus (intro w2 HALL f2 e2; have c1s : w2.cell? ⟨g, 1, none⟩ = some (.map (some bc)) := (f2.cb (by omega) (fun h => h)).trans c1r))
         rotate_left
         (focus (intro w2 k v hk hkn hia f2 z2; exact absurd hk.out (by rw [cacheF_nil]; exact fun h => nomatch h))))
      | (refine im_clear rfl _ 116 rfl mt116 rfl (show At w2 bc (cacheF []) from HIT.out.at.same (by rw [e2.out])) ?_; intro w3 h3 f3 z3; have H3 := Lib.hid h3; clear h3; clear z3))
    go_end0
    refine ⟨rfl, H3.out, ?_⟩
    exact ((f1.trans' hfr (U := fun k => k = bc) (fun _ _ h => h.elim) (fun i hi h => by omega)).trans' f2 (fun _ _ h => h) (fun _ _ h => h.elim)).trans' f3 (fun _ _ h => h) (fun _ _ h => h)

/-- Everything is durable, and nothing is pending. -/
theorem flushP_all {D : Dsk} {ks : List Int} (h : ∀ k, (cacheF D k).isSome = true → k ∈ ks) (i : Nat) (s' : Sec) (hs : (flush D)[i]? = some s') : ∃ s, (flushP D ks)[i]? = some s ∧ s'.dur = s.dur := by
  rw [flush_get] at hs
  cases hq : D[i]? with
  | none => simp [hq] at hs
  | some u =>
    simp only [hq, Option.map_some, Option.some.injEq] at hs
    refine ⟨_, by rw [flushP_get, hq]; rfl, ?_⟩
    subst hs
    by_cases hi : (i : Int) ∈ ks
    · simp [hi]
    · simp only [hi, if_false]
      cases hc : u.cac with
      | none => unfold cont; rw [hc]; rfl
      | some l =>
        refine (hi (h i ?_)).elim
        unfold cacheF
        simp [hq, hc]

theorem flush_calls (g bd bc ba : Nat) (D : Dsk) (w : World) (h : DiskAt w g bd bc ba D) :
    Calls Try.prog 32 #[.pointer (some ⟨g, 0, none⟩)] w fun e w' => e = .returned (.tuple #[]) ∧ DiskAt w' g bd bc ba (flush D) ∧ Fr (foot bd bc ba) w w' := by
  obtain ⟨av, cap, c0, c1, c2, hg, hcap, hd⟩ := h.open_
  obtain ⟨g1, g2, g3⟩ := h.gne
  have hlen : (flush D).length = D.length := by simp [flush]
  have hcn : cacheF (flush D) = fun _ => none := by
    funext k
    unfold cacheF
    split
    · rw [flush_get]; cases D[k.toNat]? <;> rfl
    · rfl
  have han : armF (flush D) = armF D := by
    funext k
    unfold armF
    split
    · rw [flush_get]; cases D[k.toNat]? <;> rfl
    · rfl
  by_cases hD : D = []
  · subst hD
    refine (flush_empty g bd bc ba w h).mono ?_
    rintro e w' ⟨rfl, hA, f⟩
    refine ⟨rfl, ⟨h.ok.flush, ⟨av, cap, ?_, by rw [hlen]; exact hcap, .inl rfl⟩, ?_, ?_, h.ne⟩, f.mono fun k _ hk => by subst hk; exact foot_c _ _ _⟩
    · rw [hlen]; exact (f.block g (lt_of_blk hg) g1).trans hg
    · rw [hcn]; exact hA
    · rw [han]; exact h.armed.same (f.block ba h.armed.lt (fun e => h.ne e.symm))
  · refine (flush_raw g bd bc ba D w h hD).mono ?_
    rintro e w' ⟨rfl, ks, hks, hdu, hA, f⟩
    have hav : av = some ⟨bd, 0, none⟩ := by
      rcases hd with hd | hd
      · exact (hD hd).elim
      · exact hd.1
    subst hav
    refine ⟨rfl, ⟨h.ok.flush, ⟨some ⟨bd, 0, none⟩, cap, ?_, by rw [hlen]; exact hcap, ?_⟩, ?_, ?_, h.ne⟩, f.mono fun k _ hk => ?_⟩
    · rw [hlen]; exact (f.block g (lt_of_blk hg) (fun e => e.elim (g3 hD).1 g1)).trans hg
    · exact hdu.same (by rw [hlen, flushP_length]) (fun i s' hs => flushP_all hks i s' hs)
    · rw [hcn]; exact hA
    · rw [han]; exact h.armed.same (f.block ba h.armed.lt (fun e => e.elim (fun e => (g3 hD).2.2 e.symm) (fun e => h.ne e.symm)))
    · rcases hk with hk | hk <;> subst hk
      · exact foot_d _ _ _
      · exact foot_c _ _ _

end Go.Proofs.Ytmbkmfpnjpkakaa
