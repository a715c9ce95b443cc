/- The program's disk: Rot. -/
import Derived.Test.YtmbkmfpnjpkakaaD4
namespace Go.Proofs.Ytmbkmfpnjpkakaa
open Go.RowKit Go.Im Go.Dsk0

set_option maxRecDepth 100000 in
theorem rot_plain (g n c bd bc i b : Nat) (x : UInt8) (w : World) (f : Int → Option Value) (c0 : w.cell? ⟨g, 0, none⟩ = some (.slice (some ⟨bd, 0, none⟩) n c)) (c1 : w.cell? ⟨g, 1, none⟩ = some (.map (some bc)))
    (hm : At w bc f) (hi : i < n) (hb : b < 512) (hf : f i = none) {cs : Array Value} (hbd : w.heap[bd]? = some (.cells cs 126 (0, 0))) (hx : cs[i * 64 + b / 8]? = some (B x)) (hgd : g ≠ bd) (hcd : bc ≠ bd) :
    Calls Try.prog 42 #[.pointer (some ⟨g, 0, none⟩), .int .i64 i, .int .i64 b] w fun e w' => e = .returned (.int .i64 0) ∧ w'.heap[bd]? = some (.cells (cs.setIfInBounds (i * 64 + b / 8) (B (x ^^^ ((1 : UInt8) <<< (UInt8.ofNat (b % 8)))))) 126 (0, 0)) ∧ Fr (fun k => k = bd) w w' := by
  have hi' : hasB n i = true := by simp [hasB]; omega
  have Hi := Lib.hid hi'; clear hi'
  have Hm := Lib.hid hm; clear hm
  obtain ⟨q, hq⟩ : ∃ q, q = b / 8 := ⟨_, rfl⟩
  obtain ⟨r, hr⟩ : ∃ r, r = b % 8 := ⟨_, rfl⟩
  have hq1 : IntKind.i64.wrap ((b : Int) / 8) = (q : Int) := by rw [hq]; exact (IntWalk.i64_in _ (by omega)).trans (by omega)
  have hr1 : ((b : Int).tmod 8) = (r : Int) := by rw [hr, Int.tmod_eq_emod_of_nonneg (by omega)]; omega
  have q0 : (0 : Int) ≤ q := by omega
  have q1 : (q : Int) < 64 := by omega
  have r0 : (0 : Int) ≤ r := by omega
  have r1 : (r : Int) < 8 := by omega
  have R8 : r < 8 := by omega
  obtain ⟨m, hm8⟩ : ∃ m : UInt8, m = (1 : UInt8) <<< UInt8.ofNat r := ⟨_, rfl⟩
  have hsh : IntKind.u8.wrap ((2 : Int) ^ r) = (m.toNat : Int) := by
    have : r = 0 ∨ r = 1 ∨ r = 2 ∨ r = 3 ∨ r = 4 ∨ r = 5 ∨ r = 6 ∨ r = 7 := by omega
    rw [hm8]
    rcases this with h | h | h | h | h | h | h | h <;> rw [h] <;> rfl
  rw [← hq] at hx
  rw [← hq, ← hr, ← hm8]
  have Hm8 := Lib.hid hm8; clear hm8
  have Hq := Lib.hid hq; clear hq
  have Hr := Lib.hid hr; clear hr
  have h1 : (0 : Int) ≤ b := by omega
  have h2 : (b : Int) < 512 := by omega
  have h3 : (0 : Int) ≤ i := by omega
  have h4 : (i : Int) < n := by omega
  have cx : w.cell? ⟨bd, i * 64 + q, none⟩ = some (B x) := by rw [cell_of_blk hbd]; exact hx
  have fx : w.frozen? ⟨bd, i * 64 + q, none⟩ = false := frozen_of_blk hbd
  have Hbd := Lib.hid hbd; clear hbd
  have glt := World.block_lt_of_cell? w _ c0
  have HX : i * 64 + q < cs.size := (Array.getElem?_eq_some_iff.1 hx).1
  go_enter Try.func42, Try.ntmps42
  go_wp2_with fail
  refine (has_yes c0 Hi.out).mono ?_; rintro e w' ⟨rfl, rfl⟩
  go_wp2_with fail
  go_still_tail 16, (by kernel_rfl)
  refine still_by (by rfl) (yields_xor 5 5 _ _ rfl (u := x) (v := m) rfl rfl w.drew) ?_
  simp only [Act.put, List.setIfInBounds_toArray, List.set_cons_zero, List.set_cons_succ]
  repeat still_step
  refine wpStill_nil ?_
  change wpList _ _ _ _ _ w.drew
  refine im_store1 rfl 5 _ _ rfl (v := B (x ^^^ m)) rfl rfl (B_one _) (by kernel_rfl) Hbd.out HX ?_
  intro w2 b2 f2 z2
  clear z2
  have B2 := Lib.hid b2; clear b2
  replace f2 := f2.undrew
  have c21 := (f2.cb glt hgd).trans c1
  have hm2 := Hm.out.same (f2.block bc Hm.out.lt hcd)
  have Hm2 := Lib.hid hm2; clear hm2
  go_wp2_with (first
    | (at_lookup; refine im_lookup_ok rfl _ _ 116 rfl mt116 kt (zero126 _) i rfl rfl Hm2.out ?_)
    | (refine im_alloc_row rfl 126 rfl (zero126 _) ?_; intro w3 b3 f3 z3; have B3 := Lib.hid b3; clear b3; have Z3 := Lib.hid z3; clear z3)
    | (refine im_store_row rfl 126 _ _ rfl rfl rfl B3.out rfl infoz (cellsB_one _) ?_; intro w4 b4 f4 z4; have B4 := Lib.hid b4; clear b4; have Z4 := Lib.hid z4; clear z4))
  go_ret
  have z3 := Z3.out
  have z2 := lt_of_blk Hbd.out
  have sz := f2.size
  refine ⟨rfl, (f4.block _ (by omega) (by omega)).trans ((f3.block _ (by omega) (fun h => h)).trans B2.out), ?_⟩
  exact (f2.trans' (f3.trans' f4 (U := fun k => k = w2.heap.size) (fun _ _ h => h.elim) (fun _ _ h => h)) (fun _ _ h => h) (fun k hk h => by omega))
set_option maxRecDepth 100000 in
set_option maxHeartbeats 1000000 in
theorem rot_cached (g n c bd bc i b : Nat) (x : UInt8) (w : World) (f : Int → Option Value) (c0 : w.cell? ⟨g, 0, none⟩ = some (.slice (some ⟨bd, 0, none⟩) n c)) (c1 : w.cell? ⟨g, 1, none⟩ = some (.map (some bc)))
    (hm : At w bc f) (hi : i < n) (hb : b < 512) (l : List UInt8) (hl : l.length = 64) (hf : f i = some (.agg (cellsB l))) {cs : Array Value} (hbd : w.heap[bd]? = some (.cells cs 126 (0, 0))) (hx : cs[i * 64 + b / 8]? = some (B x)) (hgd : g ≠ bd) (hcd : bc ≠ bd) :
    Calls Try.prog 42 #[.pointer (some ⟨g, 0, none⟩), .int .i64 i, .int .i64 b] w fun e w' => e = .returned (.int .i64 0) ∧ w'.heap[bd]? = some (.cells (cs.setIfInBounds (i * 64 + b / 8) (B (x ^^^ ((1 : UInt8) <<< (UInt8.ofNat (b % 8)))))) 126 (0, 0)) ∧ At w' bc (upd f i (some (.agg (cellsB (flip l b))))) ∧ Fr (fun k => k = bd ∨ k = bc) w w' := by
  have hI : (Try.prog.info? 126).map (·.size) = some (cellsB (flip l b)).toList.length := by rw [info126]; simp [cellsB, flip_length, hl]
  have HI := Lib.hid hI; clear hI
  have hlb : b / 8 < l.length := by omega
  obtain ⟨y, hy⟩ : ∃ y, l[b / 8]? = some y := ⟨_, List.getElem?_eq_getElem hlb⟩
  have Hl := Lib.hid hl; clear hl
  have hi' : hasB n i = true := by simp [hasB]; omega
  have Hi := Lib.hid hi'; clear hi'
  have Hm := Lib.hid hm; clear hm
  obtain ⟨q, hq⟩ : ∃ q, q = b / 8 := ⟨_, rfl⟩
  obtain ⟨r, hr⟩ : ∃ r, r = b % 8 := ⟨_, rfl⟩
  have hq1 : IntKind.i64.wrap ((b : Int) / 8) = (q : Int) := by rw [hq]; exact (IntWalk.i64_in _ (by omega)).trans (by omega)
  have hr1 : ((b : Int).tmod 8) = (r : Int) := by rw [hr, Int.tmod_eq_emod_of_nonneg (by omega)]; omega
  have q0 : (0 : Int) ≤ q := by omega
  have q1 : (q : Int) < 64 := by omega
  have r0 : (0 : Int) ≤ r := by omega
  have r1 : (r : Int) < 8 := by omega
  have R8 : r < 8 := by omega
  obtain ⟨m, hm8⟩ : ∃ m : UInt8, m = (1 : UInt8) <<< UInt8.ofNat r := ⟨_, rfl⟩
  have hsh : IntKind.u8.wrap ((2 : Int) ^ r) = (m.toNat : Int) := by
    have : r = 0 ∨ r = 1 ∨ r = 2 ∨ r = 3 ∨ r = 4 ∨ r = 5 ∨ r = 6 ∨ r = 7 := by omega
    rw [hm8]
    rcases this with h | h | h | h | h | h | h | h <;> rw [h] <;> rfl
  rw [← hq] at hx hy hlb
  have hflip : (cellsB l).setIfInBounds q (B (y ^^^ m)) = cellsB (flip l b) := by
    apply Array.ext_getElem?
    intro j
    rw [cellsB_get, Dsk0.flip, List.getElem?_modify, ← hq, ← hr, ← hm8]
    by_cases hj : q = j
    · subst hj
      rw [Array.getElem?_setIfInBounds_self_of_lt (by rw [cellsB_size]; exact hlb), hy]; simp
    · rw [Array.getElem?_setIfInBounds_ne hj, cellsB_get]; simp [hj]
  have HF := Lib.hid hflip; clear hflip
  have hcy : (cellsB l)[q]? = some (B y) := by rw [cellsB_get, hy]; rfl
  have HQ : q < (cellsB l).size := by rw [cellsB_size]; exact hlb
  clear hy hlb
  rw [← hq, ← hr, ← hm8]
  have Hm8 := Lib.hid hm8; clear hm8
  have Hq := Lib.hid hq; clear hq
  have Hr := Lib.hid hr; clear hr
  have h1 : (0 : Int) ≤ b := by omega
  have h2 : (b : Int) < 512 := by omega
  have h3 : (0 : Int) ≤ i := by omega
  have h4 : (i : Int) < n := by omega
  have cx : w.cell? ⟨bd, i * 64 + q, none⟩ = some (B x) := by rw [cell_of_blk hbd]; exact hx
  have fx : w.frozen? ⟨bd, i * 64 + q, none⟩ = false := frozen_of_blk hbd
  have Hbd := Lib.hid hbd; clear hbd
  have glt := World.block_lt_of_cell? w _ c0
  have HX : i * 64 + q < cs.size := (Array.getElem?_eq_some_iff.1 hx).1
  go_enter Try.func42, Try.ntmps42
  go_wp2_with fail
  refine (has_yes c0 Hi.out).mono ?_; rintro e w' ⟨rfl, rfl⟩
  go_wp2_with fail
  go_still_tail 16, (by kernel_rfl)
  refine still_by (by rfl) (yields_xor 5 5 _ _ rfl (u := x) (v := m) rfl rfl w.drew) ?_
  simp only [Act.put, List.setIfInBounds_toArray, List.set_cons_zero, List.set_cons_succ]
  repeat still_step
  refine wpStill_nil ?_
  change wpList _ _ _ _ _ w.drew
  refine im_store1 rfl 5 _ _ rfl (v := B (x ^^^ m)) rfl rfl (B_one _) (by kernel_rfl) Hbd.out HX ?_
  intro w2 b2 f2 z2
  clear z2
  have B2 := Lib.hid b2; clear b2
  replace f2 := f2.undrew
  have c21 := (f2.cb glt hgd).trans c1
  have hm2 := Hm.out.same (f2.block bc Hm.out.lt hcd)
  have Hm2 := Lib.hid hm2; clear hm2
  go_wp2_with (first
    | (at_lookup; refine im_lookup_ok rfl _ _ 116 rfl mt116 kt (zero126 _) i rfl rfl Hm2.out ?_)
    | (refine im_alloc_row rfl 126 rfl (zero126 _) ?_; intro w3 b3 f3 z3; have B3 := Lib.hid b3; clear b3; have Z3 := Lib.hid z3; clear z3)
    | (refine im_store_row rfl 126 _ _ rfl rfl rfl B3.out (by rw [cellsB_size, Hl.out, z64_size]) (info126' Hl.out) (cellsB_one _) ?_; intro w4 b4 f4 z4; have B4 := Lib.hid b4; clear b4; have Z4 := Lib.hid z4; clear z4))
  have hz3 := Z3.out
  have hz4 := Z4.out
  have hsz := f2.size
  have c41 : w4.cell? ⟨g, 1, none⟩ = some (.map (some bc)) := ((f4.cb (by omega) (by omega)).trans (f3.cb (by omega) (fun h => h))).trans c21
  have cq : w4.cell? ⟨w2.heap.size, q, none⟩ = some (B y) := by rw [cell_of_blk B4.out]; exact hcy
  clear hz3 hz4 hsz hcy
  go_still_tail 9, (by kernel_rfl)
  refine still_by (by rfl) (yields_xor 5 5 _ _ rfl (u := y) (v := m) rfl rfl w4.drew) ?_
  simp only [Act.put, List.setIfInBounds_toArray, List.set_cons_zero, List.set_cons_succ]
  repeat still_step
  refine wpStill_nil ?_
  change wpList _ _ _ _ _ w4.drew
  refine im_store1 rfl 5 _ _ rfl (v := B (y ^^^ m)) rfl rfl (B_one _) (by kernel_rfl) B4.out HQ ?_
  intro w5 b5 f5 z5
  rw [HF.out] at b5
  have B5 := Lib.hid b5; clear b5
  have Z5 := Lib.hid z5; clear z5
  replace f5 := f5.undrew
  have hz3 := Z3.out
  have hz4 := Z4.out
  have hsz := f2.size
  have hz5 : w5.heap.size = w4.heap.size := Z5.out
  have c51 : w5.cell? ⟨g, 1, none⟩ = some (.map (some bc)) := (f5.cb (by omega) (by omega)).trans c41
  have hbl := Hm2.out.lt
  have hm5 := Hm2.out.same ((f5.block bc (by omega) (by omega)).trans ((f4.block bc (by omega) (by omega)).trans (f3.block bc (by omega) (fun h => h))))
  have Hm5 := Lib.hid hm5; clear hm5
  clear hz3 hz4 hsz hz5 hbl cq
  go_wp2_with fail
  go_still_tail 6, (by kernel_rfl)
  refine still_by (by rfl) (by
    simp only [execOp, Sem.run_bind]
    have := run_loadAt_mid (P := Try.prog) w5.drew w2.heap.size 0 126 (cellsB (flip l b)).toList _ (range_of_blk B5.out (fun j v hv => by rw [Nat.zero_add]; simpa using hv)) row126 rfl HI.out
    simp only [Array.toArray_toList] at this
    exact congrArg (fun r => r.andThen fun a w' => Result.ok (Next.value a) w') this) ?_
  simp only [Act.put, List.setIfInBounds_toArray, List.set_cons_zero, List.set_cons_succ]
  refine wpStill_nil ?_
  change wpList _ _ _ _ _ w5.drew
  refine im_mapUpdate rfl _ _ _ 116 rfl mt116 kt i _ rfl rfl rfl (show At w5.drew bc f from Hm5.out) ?_
  intro w6 h6 f6 z6
  have H6 := Lib.hid h6; clear h6
  replace f6 := f6.undrew
  go_wp2_with fail
  go_ret
  have hz3 := Z3.out
  have hz4 := Z4.out
  have hsz := f2.size
  have hz5 : w5.heap.size = w4.heap.size := Z5.out
  have z2 := lt_of_blk Hbd.out
  refine ⟨rfl, ?_, H6.out, ?_⟩
  · exact (f6.block _ (by omega) (fun h => hcd h.symm)).trans ((f5.block _ (by omega) (by omega)).trans ((f4.block _ (by omega) (by omega)).trans ((f3.block _ (by omega) (fun h => h)).trans B2.out)))
  · have g1 : Fr (fun k => k = w2.heap.size) w2 w5 := (f3.trans' f4 (U := fun k => k = w2.heap.size) (fun _ _ h => h.elim) (fun _ _ h => h)).trans f5
    exact (f2.trans' g1 (U := fun k => k = bd ∨ k = bc) (fun _ _ h => .inl h) (fun k hk h => by omega)).trans' f6 (fun _ _ h => h) (fun _ _ h => .inr h)
theorem rot_no (g n c : Nat) (av : Option Addr) (i b : Int) (w : World) (c0 : w.cell? ⟨g, 0, none⟩ = some (.slice av n c)) (hi : hasB n i = false ∨ b < 0 ∨ 512 ≤ b) :
    Calls Try.prog 42 #[.pointer (some ⟨g, 0, none⟩), .int .i64 i, .int .i64 b] w fun e w' => e = .returned (.int .i64 1) ∧ w = w' := by
  cases h : hasB n i with
  | false =>
    have Hi := Lib.hid h; clear h; clear hi
    go_enter Try.func42, Try.ntmps42
    go_wp2_with fail
    refine (has_no c0 Hi.out).mono ?_; rintro e w' ⟨rfl, rfl⟩
    go_wp2_with fail
    go_ret
    exact ⟨rfl, rfl⟩
  | true =>
    have hb : b < 0 ∨ (0 ≤ b ∧ 512 ≤ b) := by
      rcases hi with h' | h' | h'
      · rw [h] at h'; cases h'
      · exact .inl h'
      · exact .inr ⟨by omega, h'⟩
    have Hi := Lib.hid h; clear h; clear hi
    rcases hb with hb | ⟨hb0, hb⟩
    · go_enter Try.func42, Try.ntmps42
      go_wp2_with fail
      refine (has_yes c0 Hi.out).mono ?_; rintro e w' ⟨rfl, rfl⟩
      go_wp2_with fail
      go_ret
      exact ⟨rfl, rfl⟩
    · go_enter Try.func42, Try.ntmps42
      go_wp2_with fail
      refine (has_yes c0 Hi.out).mono ?_; rintro e w' ⟨rfl, rfl⟩
      go_wp2_with fail
      go_ret
      exact ⟨rfl, rfl⟩

/-- One durable byte turned. -/
theorem DurAt.rotD {w' : World} {av : Option Addr} {bd : Nat} {D : Dsk} {i b : Nat} (hb : b < 512) {cs : Array Value} (hsz : D.length * 64 ≤ cs.size)
    (hd : ∀ i s, D[i]? = some s → ∀ j, j < 64 → cs[i * 64 + j]? = (s.dur[j]?).map B) {s : Sec} (hs : D[i]? = some s) {x : UInt8} (hx : s.dur[b / 8]? = some x)
    (hw : w'.heap[bd]? = some (.cells (cs.setIfInBounds (i * 64 + b / 8) (B (x ^^^ ((1 : UInt8) <<< (UInt8.ofNat (b % 8)))))) 126 (0, 0))) (hav : av = some ⟨bd, 0, none⟩) : DurAt w' av bd (Dsk0.rotD D i b) := by
  refine .inr ⟨hav, _, hw, by simpa [Dsk0.rotD] using hsz, fun k t ht j hj => ?_⟩
  unfold Dsk0.rotD at ht
  rw [List.getElem?_modify] at ht
  have hil : i < D.length := (List.getElem?_eq_some_iff.1 hs).1
  cases hq : D[k]? with
  | none => simp [hq] at ht
  | some u =>
    by_cases hik : i = k
    · subst hik
      rw [hs] at hq; cases hq
      simp [hs] at ht
      subst ht
      simp only [Dsk0.flip, List.getElem?_modify]
      by_cases hj' : b / 8 = j
      · subst hj'
        have hlt : i * 64 + b / 8 < cs.size := by omega
        rw [Array.getElem?_setIfInBounds_self_of_lt hlt, hx]; simp
      · rw [Array.getElem?_setIfInBounds_ne (by omega), hd i s hs j hj]; simp [hj']
    · simp [hq, hik] at ht
      subst ht
      rw [Array.getElem?_setIfInBounds_ne (by omega), hd k u hq j hj]

theorem rot_calls (g bd bc ba : Nat) (D : Dsk) (i b : Int) (w : World) (h : DiskAt w g bd bc ba D) :
    Calls Try.prog 42 #[.pointer (some ⟨g, 0, none⟩), .int .i64 i, .int .i64 b] w fun e w' => e = .returned (.int .i64 (rot D i b).1) ∧ DiskAt w' g bd bc ba (rot D i b).2 ∧ Fr (foot bd bc ba) w w' := by
  obtain ⟨av, cap, c0, c1, c2, hg, hcap, hd⟩ := h.open_
  obtain ⟨g1, g2, g3⟩ := h.gne
  by_cases hb : has D i = true ∧ 0 ≤ b ∧ b < 512
  · have hok := h.ok.rot i b
    unfold rot at hok ⊢
    rw [if_pos hb] at hok ⊢
    obtain ⟨hi, hb0, hb1⟩ := hb
    have hi' := has_iff.1 hi
    obtain ⟨k, rfl⟩ : ∃ k : Nat, i = k := ⟨i.toNat, by omega⟩
    obtain ⟨m, rfl⟩ : ∃ m : Nat, b = m := ⟨b.toNat, by omega⟩
    simp only [Int.toNat_natCast] at hok ⊢
    have hk : k < D.length := by omega
    have hm : m < 512 := by omega
    have hget : D[k]? = some D[k] := List.getElem?_eq_getElem hk
    have hmem : D[k] ∈ D := List.getElem_mem hk
    have hfi : cacheF D k = (D[k].cac).map secV := by rw [cacheF_eq, secF_at (by omega), Int.toNat_natCast, hget]; rfl
    have hD : D ≠ [] := by rintro rfl; simp at hk
    rcases hd with hd | ⟨rfl, cs, hbd, hsz, hcs⟩
    · exact (hD hd).elim
    have hdl : D[k].dur.length = 64 := h.ok.dur _ hmem
    obtain ⟨x, hx⟩ : ∃ x, D[k].dur[m / 8]? = some x := ⟨_, List.getElem?_eq_getElem (l := D[k].dur) (by omega)⟩
    have hcx : cs[k * 64 + m / 8]? = some (B x) := by rw [hcs k _ hget (m / 8) (by omega), hx]; rfl
    have hlen : ∀ D' : Dsk, (rotC (rotD D' k m) k m).length = D'.length := fun D' => by simp [rotC, rotD]
    have hrc : ∀ (w' : World), DurAt w' (some ⟨bd, 0, none⟩) bd (rotD D k m) → DurAt w' (some ⟨bd, 0, none⟩) bd (rotC (rotD D k m) k m) := fun w' hw => hw.modify _ _ (fun _ => rfl)
    have haf : armF (rotC (rotD D k m) k m) = armF D := by
      rw [armF_eq, armF_eq]; unfold rotC rotD
      refine Eq.trans (secF_modify_same ?_) (secF_modify_same ?_) <;> intro s <;> rfl
    have hcf0 : cacheF (rotD D k m) = cacheF D := by rw [cacheF_eq, cacheF_eq]; unfold rotD; exact secF_modify_same (fun _ => rfl)
    have hgd := (g3 hD).1
    cases hq : D[k].cac with
    | none =>
      refine (rot_plain g D.length cap bd bc k m x w _ c0 c1 h.cache hk hm (by rw [hfi, hq]; rfl) hbd hcx hgd (fun e => (g3 hD).2.1 e.symm)).mono ?_
      rintro e w' ⟨rfl, hbd', f⟩
      have hcf : cacheF (rotC (rotD D k m) k m) = cacheF D := by
        rw [← hcf0, cacheF_eq, cacheF_eq]
        unfold rotC
        funext z
        by_cases hz : z = (k : Int)
        · subst hz
          have e1 : (rotD D k m)[k]? = some { D[k] with dur := Dsk0.flip D[k].dur m } := by unfold rotD; rw [List.getElem?_modify, hget]; simp
          rw [secF_at (by omega), secF_at (by omega), Int.toNat_natCast, List.getElem?_modify, e1]
          simp [hq]
        · unfold secF
          split
          · rw [List.getElem?_modify]
            have : ¬ k = z.toNat := by omega
            simp [this]
          · rfl
      refine ⟨rfl, ⟨hok, ⟨some ⟨bd, 0, none⟩, cap, ?_, by rw [hlen]; exact hcap, ?_⟩, ?_, ?_, h.ne⟩, f.mono fun j _ hj => by subst hj; exact foot_d _ _ _⟩
      · rw [hlen]; exact (f.block g (lt_of_blk hg) hgd).trans hg
      · exact hrc w' (DurAt.rotD hm hsz hcs hget hx hbd' rfl)
      · rw [hcf]; exact h.cache.same (f.block bc h.cache.lt (fun e => (g3 hD).2.1 e.symm))
      · rw [haf]; exact h.armed.same (f.block ba h.armed.lt (fun e => (g3 hD).2.2 e.symm))
    | some l =>
      refine (rot_cached g D.length cap bd bc k m x w _ c0 c1 h.cache hk hm l (h.ok.cac _ hmem l hq) (by rw [hfi, hq]; rfl) hbd hcx hgd (fun e => (g3 hD).2.1 e.symm)).mono ?_
      rintro e w' ⟨rfl, hbd', hA, f⟩
      have hcf : cacheF (rotC (rotD D k m) k m) = upd (cacheF D) k (some (secV (Dsk0.flip l m))) := by
        rw [← hcf0, cacheF_eq, cacheF_eq]
        unfold rotC
        refine secF_modify (i := (k : Int)) (by omega) (by simp [rotD]; omega) (fun s hs => ?_)
        simp only [Int.toNat_natCast] at hs
        have e1 : (rotD D k m)[k]? = some { D[k] with dur := Dsk0.flip D[k].dur m } := by unfold rotD; rw [List.getElem?_modify, hget]; simp
        rw [e1] at hs; cases hs
        simp [hq]
      refine ⟨rfl, ⟨hok, ⟨some ⟨bd, 0, none⟩, cap, ?_, by rw [hlen]; exact hcap, ?_⟩, ?_, ?_, h.ne⟩, f.mono fun j _ hj => ?_⟩
      · rw [hlen]; exact (f.block g (lt_of_blk hg) (fun e => e.elim hgd g1)).trans hg
      · exact hrc w' (DurAt.rotD hm hsz hcs hget hx hbd' rfl)
      · rw [hcf]; exact hA
      · rw [haf]; exact h.armed.same (f.block ba h.armed.lt (fun e => e.elim (fun e => (g3 hD).2.2 e.symm) (fun e => h.ne e.symm)))
      · rcases hj with hj | hj <;> subst hj
        · exact foot_d _ _ _
        · exact foot_c _ _ _
  · have hb' : hasB D.length i = false ∨ b < 0 ∨ 512 ≤ b := by
      rw [has_eq]
      cases h1 : has D i with
      | false => exact .inl rfl
      | true =>
        right
        rcases Int.lt_or_le b 0 with h2 | h2
        · exact .inl h2
        · right
          rcases Int.lt_or_le b 512 with h3 | h3
          · exact (hb ⟨h1, h2, h3⟩).elim
          · exact h3
    refine (rot_no g D.length cap av i b w c0 hb').mono ?_
    rintro e w' ⟨rfl, rfl⟩
    unfold rot
    rw [if_neg hb]
    exact ⟨rfl, h, Fr.refl _ _⟩

end Go.Proofs.Ytmbkmfpnjpkakaa
