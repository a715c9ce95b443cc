/- The program's shelf: Write, Flush, FlushAll, Read, Fuse. -/
import Derived.Test.YtmbkmfpnjpkakaaS7
namespace Go.Im
open Go
/-- A new variable of one cell. -/
theorem im_alloc1 {P : Program} {ops : Array Oper} {rest : List Oper} {o : Oper} {a : Act} {w : World} {Q : Exit → Act → World → Prop} (hg : o.guard = none) (t : TypeId) (hop : o.op = Op.alloc t) {z : Value} (hz : (zeroValue t).run P w = .ok z w) (hz1 : z.cells = #[z])
    (hK : ∀ w', w'.heap[w.heap.size]? = some (.cells #[z] t (0, 0)) → Fr (fun _ => False) w w' → w'.heap.size = w.heap.size + 1 → wpList P ops Q rest (a.put o.dst (.pointer (some ⟨w.heap.size, 0, none⟩))) w') :
    wpList P ops Q (o :: rest) a w := by
  refine wpList_plain hg fun K' hK' => ?_
  unfold Oper.wp
  simp only [execOp, hop, Instr.alloc, Sem.run_bind, hz, Result.andThen_ok, newVar, newRow, hz1, run_newObj, Sem.run_pure]
  refine hK' _ _ (hK (w.alloc _) (heap_alloc_new w _) ((Fr.refl _ _).alloc _) (by simp))
end Go.Im
namespace Go.Shf0
theorem state_ne {S : Shelf} {d : Int} (h : state S d ≠ 0) : 0 ≤ d ∧ d < S.bays.length := by
  unfold state at h
  split at h
  · assumption
  · exact absurd rfl h
theorem state_pos {S : Shelf} (hk : Ok S) {d : Int} (h0 : 0 ≤ d) (h1 : d < S.bays.length) : state S d = 1 ∨ state S d = 2 ∨ state S d = 3 := by
  unfold state
  rw [if_pos ⟨h0, h1⟩]
  have hl : d.toNat < S.bays.length := by omega
  rw [List.getElem?_eq_getElem hl]
  exact hk.st _ (List.getElem_mem hl)
theorem number_bd {S : Shelf} (hk : Ok S) {p : Place} (h : there S p) : 0 ≤ number S p ∧ number S p < sectors S.cfg := by
  obtain ⟨hs, a1, a4, i0, i1⟩ := h
  obtain ⟨-, -, ⟨r0, -⟩, -, ⟨l0, -⟩, ⟨m0, -⟩, -⟩ := hk.cfg
  have hn : number S p = offset S.cfg p.area + p.index := by unfold number; rw [if_pos ⟨hs, a1, a4, i0, i1⟩]
  rw [hn]
  have : p.area = 1 ∨ p.area = 2 ∨ p.area = 3 ∨ p.area = 4 := by omega
  rcases this with h | h | h | h <;> rw [h] at i1 ⊢ <;> simp [offset, sizes, sectors] at i1 ⊢ <;> omega
theorem number_neg {S : Shelf} (hk : Ok S) (p : Place) : number S p < 0 ↔ ¬ there S p := by
  by_cases h : there S p
  · have := (number_bd hk h).1
    simp [h]; omega
  · unfold number; simp [h]
theorem there_disk {S : Shelf} {p : Place} (h : there S p) : 0 ≤ p.disk ∧ p.disk < S.bays.length := state_ne h.1
end Go.Shf0
namespace Go.Proofs.Ytmbkmfpnjpkakaa
open Go.RowKit Go.Im Go.Dsk0

theorem flush1_calls (L : Loc) (D : Dsk) (t : Int) (w : World) (h : DK w L D) : Calls Try.prog 92 #[.agg #[L.ptr, .int .i64 t]] w fun e w' => e = .returned (.tuple #[]) ∧ DiskAt w' L.g L.bd L.bc L.ba (Dsk0.flush D) ∧ Fr L.foot w w' := by
  have H := Lib.hid h; clear h
  unfold Loc.ptr
  go_enter Try.func92, Try.ntmps92
  go_wp2_with (first
    | (refine im_box rfl 106 _ rfl rfl ?_; intro w1 b1 f1 z1; have q0 : w1.cell? ⟨w.heap.size, 0, none⟩ = some (.pointer (some ⟨L.g, 0, none⟩)) := cell_of_blk b1; clear b1 z1))
  refine (flush_calls L.g L.bd L.bc L.ba D w1 (H.out.keep f1).disk).mono ?_; rintro e w2 ⟨rfl, d2, f2⟩
  have D2 := Lib.hid d2; clear d2
  go_wp2_with fail
  go_end0
  exact ⟨rfl, D2.out, f1.no.trans f2⟩

theorem write1_calls (L : Loc) (D : Dsk) (t : Int) (n : Int) (x : ByteArray) (nb sb : Nat) (w : World) (h : DK w L D) (hn : w.cell? ⟨nb, 0, none⟩ = some (.int .i64 n)) (hs : w.cell? ⟨sb, 0, none⟩ = some (.string x)) :
    Calls Try.prog 95 #[.agg #[L.ptr, .int .i64 t], .pointer (some ⟨nb, 0, none⟩), .pointer (some ⟨sb, 0, none⟩)] w fun e w' => e = .returned (.tuple #[]) ∧ DiskAt w' L.g L.bd L.bc L.ba (Dsk0.write D n x.data.toList).2 ∧ Fr L.foot w w' := by
  have H := Lib.hid h; clear h
  have hnl : nb < w.heap.size := World.block_lt_of_cell? w ⟨nb, 0, none⟩ hn
  have hsl : sb < w.heap.size := World.block_lt_of_cell? w ⟨sb, 0, none⟩ hs
  unfold Loc.ptr
  go_enter Try.func95, Try.ntmps95
  go_wp2_with (first
    | (refine im_box rfl 106 _ rfl rfl ?_; intro w1 b1 f1 z1; have q0 : w1.cell? ⟨w.heap.size, 0, none⟩ = some (.pointer (some ⟨L.g, 0, none⟩)) := cell_of_blk b1; have q1 := (f1.cb hnl (fun h => h)).trans hn; have q2 := (f1.cb hsl (fun h => h)).trans hs; clear b1 z1))
  refine (write_calls L.g L.bd L.bc L.ba D n x w1 (H.out.keep f1).disk).mono ?_; rintro e w2 ⟨rfl, d2, f2⟩
  have D2 := Lib.hid d2; clear d2
  go_wp2_with fail
  go_end0
  exact ⟨rfl, D2.out, f1.no.trans f2⟩

theorem write_length (D : Dsk) (n : Int) (l : List UInt8) : (Dsk0.write D n l).2.length = D.length := by
  unfold Dsk0.write
  split
  · split <;> simp [clr, setc]
  · rfl
theorem flush_length (D : Dsk) : (Dsk0.flush D).length = D.length := by simp [Dsk0.flush]

section
variable {w : World} {O : Nat → Prop} {s : Nat} {S : Shf0.Shelf}

theorem sflush_calls (h : ShelfAt w O s S) (d : Int) : Calls Try.prog 49 #[.pointer (some ⟨s, 0, none⟩), .int .i64 d] w fun e w' => e = .returned (.int .i64 (Shf0.flush S d).1) ∧ ShelfAt w' O s (Shf0.flush S d).2 ∧ Fr O w w' ∧ w'.cell? ⟨s, 6, none⟩ = w.cell? ⟨s, 6, none⟩ := by
  have H := Lib.hid h; clear h
  obtain ⟨R, hR⟩ : ∃ R, R = Shf0.flush S d := ⟨_, rfl⟩
  rw [← hR]
  obtain ⟨st, hst⟩ : ∃ st, st = Shf0.state S d := ⟨_, rfl⟩
  have hR' : R = if st = 0 then (1, S) else Shf0.step S d Dsk0.flush := by rw [hR, hst]; rfl
  clear hR
  by_cases h0 : st = 0
  · rw [if_pos h0] at hR'
    subst hR'
    have hb : (st == 0) = true := by simp [h0]
    have HST := Lib.hid hst; clear hst h0
    go_enter Try.func49, Try.ntmps49
    go_wp2_with fail
    refine (state_calls H.out d).mono ?_; rintro e w1 ⟨rfl, rfl⟩
    rw [← HST.out]
    go_wp2_with fail
    go_ret
    exact ⟨rfl, H.out, Fr.refl _ _, rfl⟩
  · rw [if_neg h0] at hR'
    have hd := Shf0.state_ne (S := S) (d := d) (by rw [← hst]; exact h0)
    have hb : (st == 0) = false := by simp [h0]
    have HST := Lib.hid hst; clear hst h0
    have hstep := step0_calls Dsk0.flush flush_length H.out d hd.1 hd.2 (fun L D t w1 _ hk => flush1_calls L D t w1 hk)
    rw [← hR'] at hstep
    clear hR'
    go_enter Try.func49, Try.ntmps49
    go_wp2_with fail
    refine (state_calls H.out d).mono ?_; rintro e w1 ⟨rfl, rfl⟩
    rw [← HST.out]
    go_wp2_with fail
    refine hstep.mono ?_; rintro e w1 ⟨rfl, s1, f1, b1⟩
    have S1 := Lib.hid s1; clear s1
    have B1 := Lib.hid b1; clear b1
    go_wp2_with fail
    go_ret
    exact ⟨rfl, S1.out, f1, B1.out⟩

theorem fuse_calls (h : ShelfAt w O s S) (n : Int) : Calls Try.prog 48 #[.pointer (some ⟨s, 0, none⟩), .int .i64 n] w fun e w' => e = .returned (.tuple #[]) ∧ ShelfAt w' O s (Shf0.fuse S n) ∧ Fr O w w' := by
  obtain ⟨bs, im, bv, iv, hin⟩ := h
  have HB := Lib.hid hin.head
  have HIN := Lib.hid hin
  have hOs := hin.os
  clear hin
  go_enter Try.func48, Try.ntmps48
  go_wp2_with (first
    | (refine im_store1 rfl 4 _ _ rfl (b := s) (j := 9) (v := .bool (decide (0 ≤ n))) rfl rfl rfl (by kernel_rfl) HB.out (by simp [shelfC]) ?_; intro w2 b2 f2 z2; have B2 := Lib.hid b2; clear b2; clear z2)
    | (refine im_store1 rfl 3 _ _ rfl (b := s) (j := 10) (v := .int .i64 n) rfl rfl rfl (by kernel_rfl) B2.out (by simp [shelfC]) ?_; intro w3 b3 f3 z3; have B3 := Lib.hid b3; clear b3; clear z3))
  go_end0
  exact ⟨rfl, ⟨_, _, _, _, HIN.out.setHead (S' := Shf0.fuse S n) (f2.trans f3) B3.out ⟨HIN.out.ok.cfg, HIN.out.ok.sec, HIN.out.ok.num, HIN.out.ok.bay, HIN.out.ok.len, HIN.out.ok.st, HIN.out.ok.img⟩ rfl rfl⟩, (f2.trans f3).mono fun q _ hq => by rw [hq]; exact hOs⟩

set_option maxRecDepth 100000 in
set_option maxHeartbeats 1000000 in
theorem swrite_calls (h : ShelfAt w O s S) (p : Shf0.Place) (x : ByteArray) : Calls Try.prog 53 #[.pointer (some ⟨s, 0, none⟩), placeV p, .string x] w fun e w' => e = .returned (.int .i64 (Shf0.write S p x.data.toList).1) ∧ ShelfAt w' O s (Shf0.write S p x.data.toList).2 ∧ Fr O w w' := by
  have hlx : x.data.toList.length = x.size := rfl
  have H := Lib.hid h
  obtain ⟨num, hnum⟩ : ∃ n, n = Shf0.number S p := ⟨_, rfl⟩
  obtain ⟨R, hR⟩ : ∃ R, R = Shf0.write S p x.data.toList := ⟨_, rfl⟩
  have hR' : R = if Shf0.there S p ∧ x.size = 64 then Shf0.step S p.disk (fun D => (Dsk0.write D num x.data.toList).2) else (1, S) := by rw [hR, hnum]; rfl
  rw [← hR]
  clear hR
  have hneg := Shf0.number_neg h.ok p
  rw [← hnum] at hneg
  obtain ⟨d, area, idx⟩ := p
  have HNUM := Lib.hid hnum; clear hnum
  have hOlt := Lib.hid (show ∀ q, O q → q < w.heap.size from fun q hq => h.olt hq)
  by_cases ht : Shf0.there S ⟨d, area, idx⟩
  · have hn0 : ¬ num < 0 := fun h => hneg.1 h ht
    have hdk := Shf0.there_disk ht
    simp only at hdk
    clear hneg
    by_cases h64 : x.size = 64
    · rw [if_pos ⟨ht, h64⟩] at hR'
      have HR := Lib.hid hR'; clear hR'
      have hb : ((x.size : Int) != 64) = false := by simp [h64]
      clear ht h64 hlx h
      unfold placeV
      simp only
      go_enter Try.func53, Try.ntmps53
      go_wp2_with (first
        | (refine im_box rfl 25 _ rfl rfl ?_; intro w1 b1 f1 z1; have Z1 := Lib.hid z1; clear z1; obtain ⟨p0, p1, p2⟩ := plc_cells (p := ⟨d, area, idx⟩) b1; have hl1 := lt_of_blk b1; clear b1)
        | (refine im_box rfl 9 _ rfl rfl ?_; intro w2 b2 f2 z2; have Z2 := Lib.hid z2; clear z2; have q0 : w2.cell? ⟨w1.heap.size, 0, none⟩ = some (.string x) := cell_of_blk b2; have hl2 := lt_of_blk b2; clear b2; have p0' := (f2.cb hl1 (fun h => h)).trans p0; have p1' := (f2.cb hl1 (fun h => h)).trans p1; have p2' := (f2.cb hl1 (fun h => h)).trans p2))
      have f12 := f1.trans f2
      refine (number_calls ⟨d, area, idx⟩ w2 (H.out.keep f12)).mono ?_; rintro e w3 ⟨rfl, f3⟩
      rw [← HNUM.out]
      go_wp2_with (first
        | (refine im_alloc1 rfl 3 rfl (zero3 _) rfl ?_; intro w4 b4 f4 z4; have B4 := Lib.hid b4; clear b4; have Z4 := Lib.hid z4; clear z4)
        | (refine im_store1 rfl 3 _ _ rfl (v := .int .i64 num) rfl rfl rfl (by kernel_rfl) B4.out (by simp) ?_; intro w5 b5 f5 z5; have r0 : w5.cell? ⟨w3.heap.size, 0, none⟩ = some (.int .i64 num) := cell_of_blk b5; have hl5 := lt_of_blk b5; clear b5; have Z5 := Lib.hid z5; clear z5; have hls := f3.size; have g5 : Fr (fun q => w3.heap.size ≤ q) w2 w5 := (f3.no.trans f4.no).trans (f5.mono fun q _ hq => by omega); have q05 := (g5.cb hl2 (by omega)).trans q0; have p05 := (g5.cb (Nat.lt_of_lt_of_le hl1 f2.size) (by omega)).trans p0'))
      have hw3 := f12.size
      have hls := f3.size
      have hw1 := f1.size
      have ff : Fr (fun _ => False) w w5 := ((f12.trans f3).trans f4).trans' f5 (fun _ _ h => h) (fun q hq h => by omega)
      have H5 := Lib.hid (H.out.keep ff)
      have hstep := step2_calls (.pointer (some ⟨w3.heap.size, 0, none⟩)) (.pointer (some ⟨w1.heap.size, 0, none⟩)) (fun D => (Dsk0.write D num x.data.toList).2) (fun D => write_length D num _) H5.out d hdk.1 hdk.2 (fun L D t w6 hfr hk => write1_calls L D t num x _ _ w6 hk ((hfr.cb hl5 (fun hO => by have := hOlt.out _ hO; omega)).trans r0) ((hfr.cb (Nat.lt_of_lt_of_le hl2 g5.size) (fun hO => by have := hOlt.out _ hO; omega)).trans q05))
      rw [← HR.out] at hstep
      refine hstep.mono ?_; rintro e w6 ⟨rfl, s6, f6, -⟩
      have S6 := Lib.hid s6; clear s6
      have FF := Lib.hid (ff.no.trans f6)
      clear hstep f6 f3 f4 f5 g5 ff f12 f1 f2
      go_wp2_with fail
      go_ret
      exact ⟨rfl, S6.out, FF.out⟩
    · rw [if_neg (fun h => h64 h.2)] at hR'
      subst hR'
      have hb : ((x.size : Int) != 64) = true := by simp; omega
      clear ht h64 hlx h hdk hOlt
      unfold placeV
      simp only
      go_enter Try.func53, Try.ntmps53
      go_wp2_with (first
        | (refine im_box rfl 25 _ rfl rfl ?_; intro w1 b1 f1 z1; have Z1 := Lib.hid z1; clear z1; obtain ⟨p0, p1, p2⟩ := plc_cells (p := ⟨d, area, idx⟩) b1; have hl1 := lt_of_blk b1; clear b1)
        | (refine im_box rfl 9 _ rfl rfl ?_; intro w2 b2 f2 z2; have Z2 := Lib.hid z2; clear z2; have q0 : w2.cell? ⟨w1.heap.size, 0, none⟩ = some (.string x) := cell_of_blk b2; have hl2 := lt_of_blk b2; clear b2; have p0' := (f2.cb hl1 (fun h => h)).trans p0; have p1' := (f2.cb hl1 (fun h => h)).trans p1; have p2' := (f2.cb hl1 (fun h => h)).trans p2))
      have f12 := f1.trans f2
      refine (number_calls ⟨d, area, idx⟩ w2 (H.out.keep f12)).mono ?_; rintro e w3 ⟨rfl, f3⟩
      rw [← HNUM.out]
      go_wp2_with (first
        | (refine im_alloc1 rfl 3 rfl (zero3 _) rfl ?_; intro w4 b4 f4 z4; have B4 := Lib.hid b4; clear b4; have Z4 := Lib.hid z4; clear z4)
        | (refine im_store1 rfl 3 _ _ rfl (v := .int .i64 num) rfl rfl rfl (by kernel_rfl) B4.out (by simp) ?_; intro w5 b5 f5 z5; have r0 : w5.cell? ⟨w3.heap.size, 0, none⟩ = some (.int .i64 num) := cell_of_blk b5; have hl5 := lt_of_blk b5; clear b5; have Z5 := Lib.hid z5; clear z5; have hls := f3.size; have g5 : Fr (fun q => w3.heap.size ≤ q) w2 w5 := (f3.no.trans f4.no).trans (f5.mono fun q _ hq => by omega); have q05 := (g5.cb hl2 (by omega)).trans q0; have p05 := (g5.cb (Nat.lt_of_lt_of_le hl1 f2.size) (by omega)).trans p0'))
      have hls := f3.size
      have ff : Fr (fun _ => False) w w5 := ((f12.trans f3).trans f4).trans' f5 (fun _ _ h => h) (fun q hq h => by have := f12.size; omega)
      go_ret
      exact ⟨rfl, H.out.keep ff, ff.no⟩
  · rw [if_neg (fun h => ht h.1)] at hR'
    subst hR'
    have hn0 : num < 0 := hneg.2 ht
    clear hneg
    clear ht hlx h hOlt
    unfold placeV
    simp only
    go_enter Try.func53, Try.ntmps53
    go_wp2_with (first
      | (refine im_box rfl 25 _ rfl rfl ?_; intro w1 b1 f1 z1; have Z1 := Lib.hid z1; clear z1; obtain ⟨p0, p1, p2⟩ := plc_cells (p := ⟨d, area, idx⟩) b1; have hl1 := lt_of_blk b1; clear b1)
      | (refine im_box rfl 9 _ rfl rfl ?_; intro w2 b2 f2 z2; have Z2 := Lib.hid z2; clear z2; have q0 : w2.cell? ⟨w1.heap.size, 0, none⟩ = some (.string x) := cell_of_blk b2; have hl2 := lt_of_blk b2; clear b2; have p0' := (f2.cb hl1 (fun h => h)).trans p0; have p1' := (f2.cb hl1 (fun h => h)).trans p1; have p2' := (f2.cb hl1 (fun h => h)).trans p2))
    have f12 := f1.trans f2
    refine (number_calls ⟨d, area, idx⟩ w2 (H.out.keep f12)).mono ?_; rintro e w3 ⟨rfl, f3⟩
    rw [← HNUM.out]
    go_wp2_with (first
      | (refine im_alloc1 rfl 3 rfl (zero3 _) rfl ?_; intro w4 b4 f4 z4; have B4 := Lib.hid b4; clear b4; have Z4 := Lib.hid z4; clear z4)
      | (refine im_store1 rfl 3 _ _ rfl (v := .int .i64 num) rfl rfl rfl (by kernel_rfl) B4.out (by simp) ?_; intro w5 b5 f5 z5; have r0 : w5.cell? ⟨w3.heap.size, 0, none⟩ = some (.int .i64 num) := cell_of_blk b5; have hl5 := lt_of_blk b5; clear b5; have Z5 := Lib.hid z5; clear z5; have hls := f3.size; have g5 : Fr (fun q => w3.heap.size ≤ q) w2 w5 := (f3.no.trans f4.no).trans (f5.mono fun q _ hq => by omega); have q05 := (g5.cb hl2 (by omega)).trans q0; have p05 := (g5.cb (Nat.lt_of_lt_of_le hl1 f2.size) (by omega)).trans p0'))
    have hls := f3.size
    have ff : Fr (fun _ => False) w w5 := ((f12.trans f3).trans f4).trans' f5 (fun _ _ h => h) (fun q hq h => by have := f12.size; omega)
    go_ret
    exact ⟨rfl, H.out.keep ff, ff.no⟩
end
end Go.Proofs.Ytmbkmfpnjpkakaa
