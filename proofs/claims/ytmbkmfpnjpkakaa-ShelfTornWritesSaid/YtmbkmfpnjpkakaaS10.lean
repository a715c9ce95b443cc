/- The program's shelf: arm, which does something to a sector of a bay in service. -/
import Derived.Test.YtmbkmfpnjpkakaaS9
namespace Go.Im
open Go
section
variable {P : Program} {Q : Exit → Act → World → Prop} {o : Oper} {a : Act} {w : World} {K : Act → World → Prop}
theorem wp_allocR (t : TypeId) (hop : o.op = Op.alloc t) {z : Array Value} (hz : (zeroValue t).run P w = .ok (.agg z) w)
    (hK : ∀ w', w'.heap[w.heap.size]? = some (.cells z t (0, 0)) → Fr (fun _ => False) w w' → w'.heap.size = w.heap.size + 1 → K (a.put o.dst (.pointer (some ⟨w.heap.size, 0, none⟩))) w') : o.wp P a w K Q := by
  unfold Oper.wp
  simp only [execOp, hop, Instr.alloc, Sem.run_bind, hz, Result.andThen_ok, newVar, newRow, Value.cells, run_newObj, Sem.run_pure]
  exact hK (w.alloc _) (heap_alloc_new w _) ((Fr.refl _ _).alloc _) (by simp)
theorem wp_storeR (ty : TypeId) (x y : Operand) (hop : o.op = Op.store ty x y) {b : Nat} {vs : Array Value} (hx : a.eval x = .pointer (some ⟨b, 0, none⟩)) (hy : a.eval y = .agg vs)
    {cs : Array Value} {t : TypeId} (hb : w.heap[b]? = some (.cells cs t (0, 0))) (hsz : vs.size = cs.size) (hi : (P.info? ty).map (·.size) = some vs.size) (h1 : vs.all (·.oneCell') = true)
    (hK : ∀ w', w'.heap[b]? = some (.cells vs t (0, 0)) → Fr (fun i => i = b) w w' → w'.heap.size = w.heap.size → K (a.put o.dst undef) w') : o.wp P a w K Q := by
  refine wp_store_mid ty x y hop b 0 vs hx hy (there_of_blk hb (by omega)) hi h1 ?_
  obtain ⟨f1, f2⟩ := setCells_fr b vs.toList 0 w
  have := setCells_block b vs.toList 0 w _ _ _ hb
  rw [splice_whole cs vs hsz] at this
  exact hK _ this f1 f2
end
end Go.Im
namespace Go.Proofs.Ytmbkmfpnjpkakaa
open Go.RowKit Go.Im Go.Dsk0

/-- What arm leaves where the closure is called. -/
def ArmPost (w : World) (O : Nat → Prop) (s : Nat) (S : Shf0.Shelf) (p : Shf0.Place) (Post : Loc → Dsk → Int → World → World → Prop) (e : Ending) (w' : World) : Prop :=
  ∃ (r : Int) (w1 : World) (bs : List (Loc × Shf0.Bay)) (im : List (Loc × Dsk)) (bv iv : Value) (k : Nat) (L : Loc) (b : Shf0.Bay), e = .returned (.int .i64 r) ∧ Fr (fun _ => False) w w1 ∧ ShelfIn w1 O s S bs im bv iv ∧ p.disk = k ∧ bs[k]? = some (L, b) ∧ Post L b.D r w1 w'

section
variable {w : World} {O : Nat → Prop} {s : Nat} {S : Shf0.Shelf}

set_option maxRecDepth 100000 in
theorem arm_no (fv : Value) (ok : Bool) (h : ShelfAt w O s S) (p : Shf0.Place) (hn : ¬ (Shf0.there S p ∧ ok = true)) :
    Calls Try.prog 63 #[.pointer (some ⟨s, 0, none⟩), placeV p, .bool ok, fv] w fun e w' => e = .returned (.int .i64 1) ∧ Fr (fun _ => False) w w' := by
  have H := Lib.hid h
  obtain ⟨num, hnum⟩ : ∃ n, n = Shf0.number S p := ⟨_, rfl⟩
  have hneg := Shf0.number_neg h.ok p
  rw [← hnum] at hneg
  obtain ⟨d, area, idx⟩ := p
  have HNUM := Lib.hid hnum; clear hnum
  clear h
  unfold placeV
  simp only
  by_cases ht : Shf0.there S ⟨d, area, idx⟩
  · have hok : ok = false := by cases ok with
      | false => rfl
      | true => exact absurd ⟨ht, rfl⟩ hn
    subst hok
    have hn0 : ¬ num < 0 := fun h => hneg.1 h ht
    clear hneg hn ht
    go_enter Try.func63, Try.ntmps63
    go_wp2_with (first
      | (refine im_box rfl 25 _ rfl rfl ?_; intro w1 b1 f1 z1; have Z1 := Lib.hid z1; clear z1; obtain ⟨p0, p1, p2⟩ := plc_cells (p := ⟨d, area, idx⟩) b1; have hl1 := lt_of_blk b1; clear b1))
    refine (number_calls ⟨d, area, idx⟩ w1 (H.out.keep f1)).mono ?_; rintro e w2 ⟨rfl, f2⟩
    rw [← HNUM.out]
    go_wp2_with fail
    go_ret
    exact ⟨rfl, f1.trans f2⟩
  · have hn0 : num < 0 := hneg.2 ht
    clear hneg hn ht
    go_enter Try.func63, Try.ntmps63
    go_wp2_with (first
      | (refine im_box rfl 25 _ rfl rfl ?_; intro w1 b1 f1 z1; have Z1 := Lib.hid z1; clear z1; obtain ⟨p0, p1, p2⟩ := plc_cells (p := ⟨d, area, idx⟩) b1; have hl1 := lt_of_blk b1; clear b1))
    refine (number_calls ⟨d, area, idx⟩ w1 (H.out.keep f1)).mono ?_; rintro e w2 ⟨rfl, f2⟩
    rw [← HNUM.out]
    go_wp2_with fail
    go_ret
    exact ⟨rfl, f1.trans f2⟩

set_option maxRecDepth 100000 in
set_option maxHeartbeats 1000000 in
theorem arm_gone (fv : Value) (h : ShelfAt w O s S) (p : Shf0.Place) (ht : Shf0.there S p) (hst : Shf0.state S p.disk ≠ 1) :
    Calls Try.prog 63 #[.pointer (some ⟨s, 0, none⟩), placeV p, .bool true, fv] w fun e w' => e = .returned (.int .i64 15) ∧ Fr (fun _ => False) w w' := by
  have H := Lib.hid h
  have hdk := Shf0.there_disk ht
  have hbd := (Shf0.number_bd h.ok ht).1
  obtain ⟨num, hnum⟩ : ∃ n, n = Shf0.number S p := ⟨_, rfl⟩
  rw [← hnum] at hbd
  obtain ⟨d, area, idx⟩ := p
  simp only at hdk hst
  obtain ⟨k, rfl⟩ : ∃ k : Nat, d = k := ⟨d.toNat, by omega⟩
  have HNUM := Lib.hid hnum; clear hnum
  have hn0 : ¬ num < 0 := by omega
  obtain ⟨bs, im, bv, iv, hin⟩ := h
  obtain ⟨hp1, hp2, hp3⟩ := hin.pos
  obtain ⟨vb, cap, cur, rfl, hvb, hcz, hOv, hcell⟩ := hin.open_
  have hk : k < bs.length := by omega
  obtain ⟨⟨L, b⟩, hx⟩ : ∃ x, bs[k]? = some x := ⟨_, List.getElem?_eq_getElem hk⟩
  obtain ⟨c0, c1⟩ := hcell k _ hx
  rw [state_at hin hx] at hst
  simp only at c0 c1 hst
  obtain ⟨st, hste⟩ : ∃ st, st = b.st := ⟨_, rfl⟩
  rw [← hste] at c1 hst
  have hb1 : (st == 1) = false := by simp [hst]
  clear hste
  have hDK := Lib.hid (hin.kb _ (List.mem_of_getElem? hx))
  have HIN := Lib.hid hin
  have HX := Lib.hid hx
  have c6 : w.cell? ⟨s, 6, none⟩ = some (.slice (some ⟨vb, 0, none⟩) bs.length cap) := cell_of_blk hin.head
  have hslt := lt_of_blk hin.head
  have hvlt := lt_of_blk hvb
  have k0 : (0 : Int) ≤ k := by omega
  have k1 : (k : Int) < bs.length := by omega
  clear hcell hin hx hvb hcz hst ht hbd
  unfold placeV
  simp only
  go_enter Try.func63, Try.ntmps63
  go_wp2_with (first
    | (refine im_box rfl 25 _ rfl rfl ?_; intro w1 b1 f1 z1; have Z1 := Lib.hid z1; clear z1; obtain ⟨p0, p1, p2⟩ := plc_cells (p := ⟨(k : Int), area, idx⟩) b1; have hl1 := lt_of_blk b1; clear b1))
  refine (number_calls ⟨(k : Int), area, idx⟩ w1 (H.out.keep f1)).mono ?_; rintro e w2 ⟨rfl, f2⟩
  rw [← HNUM.out]
  have p0' := (f2.cb hl1 (fun h => h)).trans p0
  have f12 := f1.trans f2
  have c6' := (f12.cb hslt (fun h => h)).trans c6
  have c0' := (f12.cb hvlt (fun h => h)).trans c0
  have c1' := (f12.cb hvlt (fun h => h)).trans c1
  clear c6 c0 c1 p0 p1 p2
  go_wp2_with fail
  refine wp_region_seq (fun W => W.cell? ⟨s, 6, none⟩ = some (.slice (some ⟨vb, 0, none⟩) bs.length cap) ∧ W.cell? ⟨vb, k * 2, none⟩ = some L.ptr ∧ W.cell? ⟨vb, k * 2 + 1, none⟩ = some (.int .i64 st) ∧ W.cell? ⟨w.heap.size, 0, none⟩ = some (.int .i64 k)) [0, 1, 2, 3, 4, 5, 6, 7, 8, 9] [8, 9] (by kernel_rfl) (by kernel_rfl) (by kernel_rfl) ⟨c6', c0', c1', p0'⟩ ?_
  simp only [pickOps, List.filterMap_cons, List.filterMap_nil, List.getElem?_toArray, List.getElem?_cons_zero, List.getElem?_cons_succ, Option.map_some]
  repeat (refine seqH_read (v := ?_) (by rfl) (by rfl) ?_ ?_; rotate_left; (focus (intro W hS; (try dsimp only at hS); obtain ⟨s1, s2, s3, s4⟩ := hS; go_simp; try with_reducible rfl)); simp only [Act.put, List.setIfInBounds_toArray, List.set_cons_zero, List.set_cons_succ])
  refine seqH_eff (by rfl) (by rfl) fun K hK => ?_
  refine wp_allocR 106 rfl (zero106 _) ?_
  intro w3 b3 f3 z3
  replace f3 := f3.undrew
  have B3 := Lib.hid b3; clear b3
  refine hK.out _ _ ⟨(f3.cb (Nat.lt_of_lt_of_le hslt f12.size) (fun h => h)).trans c6', (f3.cb (Nat.lt_of_lt_of_le hvlt f12.size) (fun h => h)).trans c0', (f3.cb (Nat.lt_of_lt_of_le hvlt f12.size) (fun h => h)).trans c1', (f3.cb (Nat.lt_of_lt_of_le hl1 f2.size) (fun h => h)).trans p0'⟩ ?_
  simp only [Act.put, List.setIfInBounds_toArray, List.set_cons_zero, List.set_cons_succ]
  refine seqH_eff (by rfl) (by rfl) fun K hK => ?_
  refine wp_storeR 106 _ _ rfl (vs := #[L.ptr, .int .i64 st]) rfl rfl B3.out rfl info106 (bay_one _ rfl _) ?_
  intro w4 b4 f4 z4
  have hl1' := Nat.lt_of_lt_of_le hl1 f2.size
  have hslt' := Nat.lt_of_lt_of_le hslt f12.size
  have hvlt' := Nat.lt_of_lt_of_le hvlt f12.size
  have g4 : Fr (fun q => q = w2.heap.size) w2 w4 := f3.no.trans f4
  refine hK.out _ _ ⟨(g4.cb hslt' (by omega)).trans c6', (g4.cb hvlt' (by omega)).trans c0', (g4.cb hvlt' (by omega)).trans c1', (g4.cb hl1' (by omega)).trans p0'⟩ ?_
  refine seqH_nil ?_
  have ff : Fr (fun _ => False) w w4 := f12.trans' g4 (fun _ _ h => h) (fun q hq h => by have := f12.size; omega)
  have q0 : w4.cell? ⟨w2.heap.size, 0, none⟩ = some L.ptr := cell_of_blk b4
  have q1 : w4.cell? ⟨w2.heap.size, 1, none⟩ = some (.int .i64 st) := cell_of_blk b4
  have FF := Lib.hid ff
  clear c6' c0' c1' p0' hK f3 f4 z3 z4 b4 g4 B3 f12 f1 f2 ff
  go_wp2_with fail
  go_ret
  exact ⟨rfl, FF.out⟩

set_option maxRecDepth 100000 in
set_option maxHeartbeats 1000000 in
theorem arm_peek (cp : Value) (Post : Loc → Dsk → Int → World → World → Prop) (h : ShelfAt w O s S) (p : Shf0.Place) (ht : Shf0.there S p) (hst : Shf0.state S p.disk = 1)
    (hcall : ∀ (L : Loc) (D : Dsk) (t : Int) (w1 : World), Fr (fun _ => False) w w1 → DK w1 L D → Calls Try.prog 64 #[.agg #[L.ptr, .int .i64 t], .int .i64 (Shf0.number S p), cp] w1 fun e w' => ∃ r : Int, e = .returned (.int .i64 r) ∧ Post L D r w1 w') :
    Calls Try.prog 63 #[.pointer (some ⟨s, 0, none⟩), placeV p, .bool true, .func (.func 64) #[] #[cp]] w fun e w' => ArmPost w O s S p Post e w' := by
  have H := Lib.hid h
  have hdk := Shf0.there_disk ht
  have hbd := (Shf0.number_bd h.ok ht).1
  have HC := Lib.hid hcall; clear hcall
  obtain ⟨num, hnum⟩ : ∃ n, n = Shf0.number S p := ⟨_, rfl⟩
  rw [← hnum] at HC hbd
  obtain ⟨d, area, idx⟩ := p
  simp only at hdk hst
  obtain ⟨k, rfl⟩ : ∃ k : Nat, d = k := ⟨d.toNat, by omega⟩
  have HNUM := Lib.hid hnum; clear hnum
  have hn0 : ¬ num < 0 := by omega
  obtain ⟨bs, im, bv, iv, hin⟩ := h
  obtain ⟨hp1, hp2, hp3⟩ := hin.pos
  obtain ⟨vb, cap, cur, rfl, hvb, hcz, hOv, hcell⟩ := hin.open_
  have hk : k < bs.length := by omega
  obtain ⟨⟨L, b⟩, hx⟩ : ∃ x, bs[k]? = some x := ⟨_, List.getElem?_eq_getElem hk⟩
  obtain ⟨c0, c1⟩ := hcell k _ hx
  rw [state_at hin hx] at hst
  simp only at c0 c1 hst
  rw [hst] at c1
  have hDK := Lib.hid (hin.kb _ (List.mem_of_getElem? hx))
  have HIN := Lib.hid hin
  have HX := Lib.hid hx
  have c6 : w.cell? ⟨s, 6, none⟩ = some (.slice (some ⟨vb, 0, none⟩) bs.length cap) := cell_of_blk hin.head
  have hslt := lt_of_blk hin.head
  have hvlt := lt_of_blk hvb
  have k0 : (0 : Int) ≤ k := by omega
  have k1 : (k : Int) < bs.length := by omega
  clear hcell hin hx hvb hcz hst ht hbd
  unfold placeV
  simp only
  go_enter Try.func63, Try.ntmps63
  go_wp2_with (first
    | (refine im_box rfl 25 _ rfl rfl ?_; intro w1 b1 f1 z1; have Z1 := Lib.hid z1; clear z1; obtain ⟨p0, p1, p2⟩ := plc_cells (p := ⟨(k : Int), area, idx⟩) b1; have hl1 := lt_of_blk b1; clear b1))
  refine (number_calls ⟨(k : Int), area, idx⟩ w1 (H.out.keep f1)).mono ?_; rintro e w2 ⟨rfl, f2⟩
  rw [← HNUM.out]
  have p0' := (f2.cb hl1 (fun h => h)).trans p0
  have f12 := f1.trans f2
  have c6' := (f12.cb hslt (fun h => h)).trans c6
  have c0' := (f12.cb hvlt (fun h => h)).trans c0
  have c1' := (f12.cb hvlt (fun h => h)).trans c1
  clear c6 c0 c1 p0 p1 p2
  go_wp2_with fail
  refine wp_region_seq (fun W => W.cell? ⟨s, 6, none⟩ = some (.slice (some ⟨vb, 0, none⟩) bs.length cap) ∧ W.cell? ⟨vb, k * 2, none⟩ = some L.ptr ∧ W.cell? ⟨vb, k * 2 + 1, none⟩ = some (.int .i64 1) ∧ W.cell? ⟨w.heap.size, 0, none⟩ = some (.int .i64 k)) [0, 1, 2, 3, 4, 5, 6, 7, 8, 9] [8, 9] (by kernel_rfl) (by kernel_rfl) (by kernel_rfl) ⟨c6', c0', c1', p0'⟩ ?_
  simp only [pickOps, List.filterMap_cons, List.filterMap_nil, List.getElem?_toArray, List.getElem?_cons_zero, List.getElem?_cons_succ, Option.map_some]
  repeat (refine seqH_read (v := ?_) (by rfl) (by rfl) ?_ ?_; rotate_left; (focus (intro W hS; (try dsimp only at hS); obtain ⟨s1, s2, s3, s4⟩ := hS; go_simp; try with_reducible rfl)); simp only [Act.put, List.setIfInBounds_toArray, List.set_cons_zero, List.set_cons_succ])
  refine seqH_eff (by rfl) (by rfl) fun K hK => ?_
  refine wp_allocR 106 rfl (zero106 _) ?_
  intro w3 b3 f3 z3
  replace f3 := f3.undrew
  have B3 := Lib.hid b3; clear b3
  refine hK.out _ _ ⟨(f3.cb (Nat.lt_of_lt_of_le hslt f12.size) (fun h => h)).trans c6', (f3.cb (Nat.lt_of_lt_of_le hvlt f12.size) (fun h => h)).trans c0', (f3.cb (Nat.lt_of_lt_of_le hvlt f12.size) (fun h => h)).trans c1', (f3.cb (Nat.lt_of_lt_of_le hl1 f2.size) (fun h => h)).trans p0'⟩ ?_
  simp only [Act.put, List.setIfInBounds_toArray, List.set_cons_zero, List.set_cons_succ]
  refine seqH_eff (by rfl) (by rfl) fun K hK => ?_
  refine wp_storeR 106 _ _ rfl (vs := #[L.ptr, .int .i64 1]) rfl rfl B3.out rfl info106 (bay_one _ rfl _) ?_
  intro w4 b4 f4 z4
  have hl1' := Nat.lt_of_lt_of_le hl1 f2.size
  have hslt' := Nat.lt_of_lt_of_le hslt f12.size
  have hvlt' := Nat.lt_of_lt_of_le hvlt f12.size
  have g4 : Fr (fun q => q = w2.heap.size) w2 w4 := f3.no.trans f4
  refine hK.out _ _ ⟨(g4.cb hslt' (by omega)).trans c6', (g4.cb hvlt' (by omega)).trans c0', (g4.cb hvlt' (by omega)).trans c1', (g4.cb hl1' (by omega)).trans p0'⟩ ?_
  refine seqH_nil ?_
  have ff : Fr (fun _ => False) w w4 := f12.trans' g4 (fun _ _ h => h) (fun q hq h => by have := f12.size; omega)
  have q0 : w4.cell? ⟨w2.heap.size, 0, none⟩ = some L.ptr := cell_of_blk b4
  have q1 : w4.cell? ⟨w2.heap.size, 1, none⟩ = some (.int .i64 1) := cell_of_blk b4
  have FF := Lib.hid ff
  clear c6' c0' c1' p0' hK f3 f4 z3 z4 b4 g4 B3 f12 f1 f2 ff
  go_wp2_with fail
  refine (HC.out L b.D 1 w4 FF.out (hDK.out.keep FF.out)).mono ?_; rintro e w5 ⟨r, rfl, hpost⟩
  have HP := Lib.hid hpost; clear hpost
  go_wp2_with fail
  go_ret
  exact ⟨r, w4, bs, im, _, iv, k, L, b, rfl, FF.out, HIN.out.fr FF.out (fun _ _ h => h), rfl, HX.out, HP.out⟩

set_option maxRecDepth 100000 in
set_option maxHeartbeats 1000000 in
theorem arm_rot (cp : Value) (Post : Loc → Dsk → Int → World → World → Prop) (h : ShelfAt w O s S) (p : Shf0.Place) (ht : Shf0.there S p) (hst : Shf0.state S p.disk = 1)
    (hcall : ∀ (L : Loc) (D : Dsk) (t : Int) (w1 : World), Fr (fun _ => False) w w1 → DK w1 L D → Calls Try.prog 122 #[.agg #[L.ptr, .int .i64 t], .int .i64 (Shf0.number S p), cp] w1 fun e w' => ∃ r : Int, e = .returned (.int .i64 r) ∧ Post L D r w1 w') :
    Calls Try.prog 63 #[.pointer (some ⟨s, 0, none⟩), placeV p, .bool true, .func (.func 122) #[] #[cp]] w fun e w' => ArmPost w O s S p Post e w' := by
  have H := Lib.hid h
  have hdk := Shf0.there_disk ht
  have hbd := (Shf0.number_bd h.ok ht).1
  have HC := Lib.hid hcall; clear hcall
  obtain ⟨num, hnum⟩ : ∃ n, n = Shf0.number S p := ⟨_, rfl⟩
  rw [← hnum] at HC hbd
  obtain ⟨d, area, idx⟩ := p
  simp only at hdk hst
  obtain ⟨k, rfl⟩ : ∃ k : Nat, d = k := ⟨d.toNat, by omega⟩
  have HNUM := Lib.hid hnum; clear hnum
  have hn0 : ¬ num < 0 := by omega
  obtain ⟨bs, im, bv, iv, hin⟩ := h
  obtain ⟨hp1, hp2, hp3⟩ := hin.pos
  obtain ⟨vb, cap, cur, rfl, hvb, hcz, hOv, hcell⟩ := hin.open_
  have hk : k < bs.length := by omega
  obtain ⟨⟨L, b⟩, hx⟩ : ∃ x, bs[k]? = some x := ⟨_, List.getElem?_eq_getElem hk⟩
  obtain ⟨c0, c1⟩ := hcell k _ hx
  rw [state_at hin hx] at hst
  simp only at c0 c1 hst
  rw [hst] at c1
  have hDK := Lib.hid (hin.kb _ (List.mem_of_getElem? hx))
  have HIN := Lib.hid hin
  have HX := Lib.hid hx
  have c6 : w.cell? ⟨s, 6, none⟩ = some (.slice (some ⟨vb, 0, none⟩) bs.length cap) := cell_of_blk hin.head
  have hslt := lt_of_blk hin.head
  have hvlt := lt_of_blk hvb
  have k0 : (0 : Int) ≤ k := by omega
  have k1 : (k : Int) < bs.length := by omega
  clear hcell hin hx hvb hcz hst ht hbd
  unfold placeV
  simp only
  go_enter Try.func63, Try.ntmps63
  go_wp2_with (first
    | (refine im_box rfl 25 _ rfl rfl ?_; intro w1 b1 f1 z1; have Z1 := Lib.hid z1; clear z1; obtain ⟨p0, p1, p2⟩ := plc_cells (p := ⟨(k : Int), area, idx⟩) b1; have hl1 := lt_of_blk b1; clear b1))
  refine (number_calls ⟨(k : Int), area, idx⟩ w1 (H.out.keep f1)).mono ?_; rintro e w2 ⟨rfl, f2⟩
  rw [← HNUM.out]
  have p0' := (f2.cb hl1 (fun h => h)).trans p0
  have f12 := f1.trans f2
  have c6' := (f12.cb hslt (fun h => h)).trans c6
  have c0' := (f12.cb hvlt (fun h => h)).trans c0
  have c1' := (f12.cb hvlt (fun h => h)).trans c1
  clear c6 c0 c1 p0 p1 p2
  go_wp2_with fail
  refine wp_region_seq (fun W => W.cell? ⟨s, 6, none⟩ = some (.slice (some ⟨vb, 0, none⟩) bs.length cap) ∧ W.cell? ⟨vb, k * 2, none⟩ = some L.ptr ∧ W.cell? ⟨vb, k * 2 + 1, none⟩ = some (.int .i64 1) ∧ W.cell? ⟨w.heap.size, 0, none⟩ = some (.int .i64 k)) [0, 1, 2, 3, 4, 5, 6, 7, 8, 9] [8, 9] (by kernel_rfl) (by kernel_rfl) (by kernel_rfl) ⟨c6', c0', c1', p0'⟩ ?_
  simp only [pickOps, List.filterMap_cons, List.filterMap_nil, List.getElem?_toArray, List.getElem?_cons_zero, List.getElem?_cons_succ, Option.map_some]
  repeat (refine seqH_read (v := ?_) (by rfl) (by rfl) ?_ ?_; rotate_left; (focus (intro W hS; (try dsimp only at hS); obtain ⟨s1, s2, s3, s4⟩ := hS; go_simp; try with_reducible rfl)); simp only [Act.put, List.setIfInBounds_toArray, List.set_cons_zero, List.set_cons_succ])
  refine seqH_eff (by rfl) (by rfl) fun K hK => ?_
  refine wp_allocR 106 rfl (zero106 _) ?_
  intro w3 b3 f3 z3
  replace f3 := f3.undrew
  have B3 := Lib.hid b3; clear b3
  refine hK.out _ _ ⟨(f3.cb (Nat.lt_of_lt_of_le hslt f12.size) (fun h => h)).trans c6', (f3.cb (Nat.lt_of_lt_of_le hvlt f12.size) (fun h => h)).trans c0', (f3.cb (Nat.lt_of_lt_of_le hvlt f12.size) (fun h => h)).trans c1', (f3.cb (Nat.lt_of_lt_of_le hl1 f2.size) (fun h => h)).trans p0'⟩ ?_
  simp only [Act.put, List.setIfInBounds_toArray, List.set_cons_zero, List.set_cons_succ]
  refine seqH_eff (by rfl) (by rfl) fun K hK => ?_
  refine wp_storeR 106 _ _ rfl (vs := #[L.ptr, .int .i64 1]) rfl rfl B3.out rfl info106 (bay_one _ rfl _) ?_
  intro w4 b4 f4 z4
  have hl1' := Nat.lt_of_lt_of_le hl1 f2.size
  have hslt' := Nat.lt_of_lt_of_le hslt f12.size
  have hvlt' := Nat.lt_of_lt_of_le hvlt f12.size
  have g4 : Fr (fun q => q = w2.heap.size) w2 w4 := f3.no.trans f4
  refine hK.out _ _ ⟨(g4.cb hslt' (by omega)).trans c6', (g4.cb hvlt' (by omega)).trans c0', (g4.cb hvlt' (by omega)).trans c1', (g4.cb hl1' (by omega)).trans p0'⟩ ?_
  refine seqH_nil ?_
  have ff : Fr (fun _ => False) w w4 := f12.trans' g4 (fun _ _ h => h) (fun q hq h => by have := f12.size; omega)
  have q0 : w4.cell? ⟨w2.heap.size, 0, none⟩ = some L.ptr := cell_of_blk b4
  have q1 : w4.cell? ⟨w2.heap.size, 1, none⟩ = some (.int .i64 1) := cell_of_blk b4
  have FF := Lib.hid ff
  clear c6' c0' c1' p0' hK f3 f4 z3 z4 b4 g4 B3 f12 f1 f2 ff
  go_wp2_with fail
  refine (HC.out L b.D 1 w4 FF.out (hDK.out.keep FF.out)).mono ?_; rintro e w5 ⟨r, rfl, hpost⟩
  have HP := Lib.hid hpost; clear hpost
  go_wp2_with fail
  go_ret
  exact ⟨r, w4, bs, im, _, iv, k, L, b, rfl, FF.out, HIN.out.fr FF.out (fun _ _ h => h), rfl, HX.out, HP.out⟩

set_option maxRecDepth 100000 in
set_option maxHeartbeats 1000000 in
theorem arm_lose  (Post : Loc → Dsk → Int → World → World → Prop) (h : ShelfAt w O s S) (p : Shf0.Place) (ht : Shf0.there S p) (hst : Shf0.state S p.disk = 1)
    (hcall : ∀ (L : Loc) (D : Dsk) (t : Int) (w1 : World), Fr (fun _ => False) w w1 → DK w1 L D → Calls Try.prog 123 #[.agg #[L.ptr, .int .i64 t], .int .i64 (Shf0.number S p)] w1 fun e w' => ∃ r : Int, e = .returned (.int .i64 r) ∧ Post L D r w1 w') :
    Calls Try.prog 63 #[.pointer (some ⟨s, 0, none⟩), placeV p, .bool true, .func (.func 123) #[] #[]] w fun e w' => ArmPost w O s S p Post e w' := by
  have H := Lib.hid h
  have hdk := Shf0.there_disk ht
  have hbd := (Shf0.number_bd h.ok ht).1
  have HC := Lib.hid hcall; clear hcall
  obtain ⟨num, hnum⟩ : ∃ n, n = Shf0.number S p := ⟨_, rfl⟩
  rw [← hnum] at HC hbd
  obtain ⟨d, area, idx⟩ := p
  simp only at hdk hst
  obtain ⟨k, rfl⟩ : ∃ k : Nat, d = k := ⟨d.toNat, by omega⟩
  have HNUM := Lib.hid hnum; clear hnum
  have hn0 : ¬ num < 0 := by omega
  obtain ⟨bs, im, bv, iv, hin⟩ := h
  obtain ⟨hp1, hp2, hp3⟩ := hin.pos
  obtain ⟨vb, cap, cur, rfl, hvb, hcz, hOv, hcell⟩ := hin.open_
  have hk : k < bs.length := by omega
  obtain ⟨⟨L, b⟩, hx⟩ : ∃ x, bs[k]? = some x := ⟨_, List.getElem?_eq_getElem hk⟩
  obtain ⟨c0, c1⟩ := hcell k _ hx
  rw [state_at hin hx] at hst
  simp only at c0 c1 hst
  rw [hst] at c1
  have hDK := Lib.hid (hin.kb _ (List.mem_of_getElem? hx))
  have HIN := Lib.hid hin
  have HX := Lib.hid hx
  have c6 : w.cell? ⟨s, 6, none⟩ = some (.slice (some ⟨vb, 0, none⟩) bs.length cap) := cell_of_blk hin.head
  have hslt := lt_of_blk hin.head
  have hvlt := lt_of_blk hvb
  have k0 : (0 : Int) ≤ k := by omega
  have k1 : (k : Int) < bs.length := by omega
  clear hcell hin hx hvb hcz hst ht hbd
  unfold placeV
  simp only
  go_enter Try.func63, Try.ntmps63
  go_wp2_with (first
    | (refine im_box rfl 25 _ rfl rfl ?_; intro w1 b1 f1 z1; have Z1 := Lib.hid z1; clear z1; obtain ⟨p0, p1, p2⟩ := plc_cells (p := ⟨(k : Int), area, idx⟩) b1; have hl1 := lt_of_blk b1; clear b1))
  refine (number_calls ⟨(k : Int), area, idx⟩ w1 (H.out.keep f1)).mono ?_; rintro e w2 ⟨rfl, f2⟩
  rw [← HNUM.out]
  have p0' := (f2.cb hl1 (fun h => h)).trans p0
  have f12 := f1.trans f2
  have c6' := (f12.cb hslt (fun h => h)).trans c6
  have c0' := (f12.cb hvlt (fun h => h)).trans c0
  have c1' := (f12.cb hvlt (fun h => h)).trans c1
  clear c6 c0 c1 p0 p1 p2
  go_wp2_with fail
  refine wp_region_seq (fun W => W.cell? ⟨s, 6, none⟩ = some (.slice (some ⟨vb, 0, none⟩) bs.length cap) ∧ W.cell? ⟨vb, k * 2, none⟩ = some L.ptr ∧ W.cell? ⟨vb, k * 2 + 1, none⟩ = some (.int .i64 1) ∧ W.cell? ⟨w.heap.size, 0, none⟩ = some (.int .i64 k)) [0, 1, 2, 3, 4, 5, 6, 7, 8, 9] [8, 9] (by kernel_rfl) (by kernel_rfl) (by kernel_rfl) ⟨c6', c0', c1', p0'⟩ ?_
  simp only [pickOps, List.filterMap_cons, List.filterMap_nil, List.getElem?_toArray, List.getElem?_cons_zero, List.getElem?_cons_succ, Option.map_some]
  repeat (refine seqH_read (v := ?_) (by rfl) (by rfl) ?_ ?_; rotate_left; (focus (intro W hS; (try dsimp only at hS); obtain ⟨s1, s2, s3, s4⟩ := hS; go_simp; try with_reducible rfl)); simp only [Act.put, List.setIfInBounds_toArray, List.set_cons_zero, List.set_cons_succ])
  refine seqH_eff (by rfl) (by rfl) fun K hK => ?_
  refine wp_allocR 106 rfl (zero106 _) ?_
  intro w3 b3 f3 z3
  replace f3 := f3.undrew
  have B3 := Lib.hid b3; clear b3
  refine hK.out _ _ ⟨(f3.cb (Nat.lt_of_lt_of_le hslt f12.size) (fun h => h)).trans c6', (f3.cb (Nat.lt_of_lt_of_le hvlt f12.size) (fun h => h)).trans c0', (f3.cb (Nat.lt_of_lt_of_le hvlt f12.size) (fun h => h)).trans c1', (f3.cb (Nat.lt_of_lt_of_le hl1 f2.size) (fun h => h)).trans p0'⟩ ?_
  simp only [Act.put, List.setIfInBounds_toArray, List.set_cons_zero, List.set_cons_succ]
  refine seqH_eff (by rfl) (by rfl) fun K hK => ?_
  refine wp_storeR 106 _ _ rfl (vs := #[L.ptr, .int .i64 1]) rfl rfl B3.out rfl info106 (bay_one _ rfl _) ?_
  intro w4 b4 f4 z4
  have hl1' := Nat.lt_of_lt_of_le hl1 f2.size
  have hslt' := Nat.lt_of_lt_of_le hslt f12.size
  have hvlt' := Nat.lt_of_lt_of_le hvlt f12.size
  have g4 : Fr (fun q => q = w2.heap.size) w2 w4 := f3.no.trans f4
  refine hK.out _ _ ⟨(g4.cb hslt' (by omega)).trans c6', (g4.cb hvlt' (by omega)).trans c0', (g4.cb hvlt' (by omega)).trans c1', (g4.cb hl1' (by omega)).trans p0'⟩ ?_
  refine seqH_nil ?_
  have ff : Fr (fun _ => False) w w4 := f12.trans' g4 (fun _ _ h => h) (fun q hq h => by have := f12.size; omega)
  have q0 : w4.cell? ⟨w2.heap.size, 0, none⟩ = some L.ptr := cell_of_blk b4
  have q1 : w4.cell? ⟨w2.heap.size, 1, none⟩ = some (.int .i64 1) := cell_of_blk b4
  have FF := Lib.hid ff
  clear c6' c0' c1' p0' hK f3 f4 z3 z4 b4 g4 B3 f12 f1 f2 ff
  go_wp2_with fail
  refine (HC.out L b.D 1 w4 FF.out (hDK.out.keep FF.out)).mono ?_; rintro e w5 ⟨r, rfl, hpost⟩
  have HP := Lib.hid hpost; clear hpost
  go_wp2_with fail
  go_ret
  exact ⟨r, w4, bs, im, _, iv, k, L, b, rfl, FF.out, HIN.out.fr FF.out (fun _ _ h => h), rfl, HX.out, HP.out⟩

set_option maxRecDepth 100000 in
set_option maxHeartbeats 1000000 in
theorem arm_misdirect (cp : Value) (Post : Loc → Dsk → Int → World → World → Prop) (h : ShelfAt w O s S) (p : Shf0.Place) (ht : Shf0.there S p) (hst : Shf0.state S p.disk = 1)
    (hcall : ∀ (L : Loc) (D : Dsk) (t : Int) (w1 : World), Fr (fun _ => False) w w1 → DK w1 L D → Calls Try.prog 124 #[.agg #[L.ptr, .int .i64 t], .int .i64 (Shf0.number S p), cp] w1 fun e w' => ∃ r : Int, e = .returned (.int .i64 r) ∧ Post L D r w1 w') :
    Calls Try.prog 63 #[.pointer (some ⟨s, 0, none⟩), placeV p, .bool true, .func (.func 124) #[] #[cp]] w fun e w' => ArmPost w O s S p Post e w' := by
  have H := Lib.hid h
  have hdk := Shf0.there_disk ht
  have hbd := (Shf0.number_bd h.ok ht).1
  have HC := Lib.hid hcall; clear hcall
  obtain ⟨num, hnum⟩ : ∃ n, n = Shf0.number S p := ⟨_, rfl⟩
  rw [← hnum] at HC hbd
  obtain ⟨d, area, idx⟩ := p
  simp only at hdk hst
  obtain ⟨k, rfl⟩ : ∃ k : Nat, d = k := ⟨d.toNat, by omega⟩
  have HNUM := Lib.hid hnum; clear hnum
  have hn0 : ¬ num < 0 := by omega
  obtain ⟨bs, im, bv, iv, hin⟩ := h
  obtain ⟨hp1, hp2, hp3⟩ := hin.pos
  obtain ⟨vb, cap, cur, rfl, hvb, hcz, hOv, hcell⟩ := hin.open_
  have hk : k < bs.length := by omega
  obtain ⟨⟨L, b⟩, hx⟩ : ∃ x, bs[k]? = some x := ⟨_, List.getElem?_eq_getElem hk⟩
  obtain ⟨c0, c1⟩ := hcell k _ hx
  rw [state_at hin hx] at hst
  simp only at c0 c1 hst
  rw [hst] at c1
  have hDK := Lib.hid (hin.kb _ (List.mem_of_getElem? hx))
  have HIN := Lib.hid hin
  have HX := Lib.hid hx
  have c6 : w.cell? ⟨s, 6, none⟩ = some (.slice (some ⟨vb, 0, none⟩) bs.length cap) := cell_of_blk hin.head
  have hslt := lt_of_blk hin.head
  have hvlt := lt_of_blk hvb
  have k0 : (0 : Int) ≤ k := by omega
  have k1 : (k : Int) < bs.length := by omega
  clear hcell hin hx hvb hcz hst ht hbd
  unfold placeV
  simp only
  go_enter Try.func63, Try.ntmps63
  go_wp2_with (first
    | (refine im_box rfl 25 _ rfl rfl ?_; intro w1 b1 f1 z1; have Z1 := Lib.hid z1; clear z1; obtain ⟨p0, p1, p2⟩ := plc_cells (p := ⟨(k : Int), area, idx⟩) b1; have hl1 := lt_of_blk b1; clear b1))
  refine (number_calls ⟨(k : Int), area, idx⟩ w1 (H.out.keep f1)).mono ?_; rintro e w2 ⟨rfl, f2⟩
  rw [← HNUM.out]
  have p0' := (f2.cb hl1 (fun h => h)).trans p0
  have f12 := f1.trans f2
  have c6' := (f12.cb hslt (fun h => h)).trans c6
  have c0' := (f12.cb hvlt (fun h => h)).trans c0
  have c1' := (f12.cb hvlt (fun h => h)).trans c1
  clear c6 c0 c1 p0 p1 p2
  go_wp2_with fail
  refine wp_region_seq (fun W => W.cell? ⟨s, 6, none⟩ = some (.slice (some ⟨vb, 0, none⟩) bs.length cap) ∧ W.cell? ⟨vb, k * 2, none⟩ = some L.ptr ∧ W.cell? ⟨vb, k * 2 + 1, none⟩ = some (.int .i64 1) ∧ W.cell? ⟨w.heap.size, 0, none⟩ = some (.int .i64 k)) [0, 1, 2, 3, 4, 5, 6, 7, 8, 9] [8, 9] (by kernel_rfl) (by kernel_rfl) (by kernel_rfl) ⟨c6', c0', c1', p0'⟩ ?_
  simp only [pickOps, List.filterMap_cons, List.filterMap_nil, List.getElem?_toArray, List.getElem?_cons_zero, List.getElem?_cons_succ, Option.map_some]
  repeat (refine seqH_read (v := ?_) (by rfl) (by rfl) ?_ ?_; rotate_left; (focus (intro W hS; (try dsimp only at hS); obtain ⟨s1, s2, s3, s4⟩ := hS; go_simp; try with_reducible rfl)); simp only [Act.put, List.setIfInBounds_toArray, List.set_cons_zero, List.set_cons_succ])
  refine seqH_eff (by rfl) (by rfl) fun K hK => ?_
  refine wp_allocR 106 rfl (zero106 _) ?_
  intro w3 b3 f3 z3
  replace f3 := f3.undrew
  have B3 := Lib.hid b3; clear b3
  refine hK.out _ _ ⟨(f3.cb (Nat.lt_of_lt_of_le hslt f12.size) (fun h => h)).trans c6', (f3.cb (Nat.lt_of_lt_of_le hvlt f12.size) (fun h => h)).trans c0', (f3.cb (Nat.lt_of_lt_of_le hvlt f12.size) (fun h => h)).trans c1', (f3.cb (Nat.lt_of_lt_of_le hl1 f2.size) (fun h => h)).trans p0'⟩ ?_
  simp only [Act.put, List.setIfInBounds_toArray, List.set_cons_zero, List.set_cons_succ]
  refine seqH_eff (by rfl) (by rfl) fun K hK => ?_
  refine wp_storeR 106 _ _ rfl (vs := #[L.ptr, .int .i64 1]) rfl rfl B3.out rfl info106 (bay_one _ rfl _) ?_
  intro w4 b4 f4 z4
  have hl1' := Nat.lt_of_lt_of_le hl1 f2.size
  have hslt' := Nat.lt_of_lt_of_le hslt f12.size
  have hvlt' := Nat.lt_of_lt_of_le hvlt f12.size
  have g4 : Fr (fun q => q = w2.heap.size) w2 w4 := f3.no.trans f4
  refine hK.out _ _ ⟨(g4.cb hslt' (by omega)).trans c6', (g4.cb hvlt' (by omega)).trans c0', (g4.cb hvlt' (by omega)).trans c1', (g4.cb hl1' (by omega)).trans p0'⟩ ?_
  refine seqH_nil ?_
  have ff : Fr (fun _ => False) w w4 := f12.trans' g4 (fun _ _ h => h) (fun q hq h => by have := f12.size; omega)
  have q0 : w4.cell? ⟨w2.heap.size, 0, none⟩ = some L.ptr := cell_of_blk b4
  have q1 : w4.cell? ⟨w2.heap.size, 1, none⟩ = some (.int .i64 1) := cell_of_blk b4
  have FF := Lib.hid ff
  clear c6' c0' c1' p0' hK f3 f4 z3 z4 b4 g4 B3 f12 f1 f2 ff
  go_wp2_with fail
  refine (HC.out L b.D 1 w4 FF.out (hDK.out.keep FF.out)).mono ?_; rintro e w5 ⟨r, rfl, hpost⟩
  have HP := Lib.hid hpost; clear hpost
  go_wp2_with fail
  go_ret
  exact ⟨r, w4, bs, im, _, iv, k, L, b, rfl, FF.out, HIN.out.fr FF.out (fun _ _ h => h), rfl, HX.out, HP.out⟩
end
end Go.Proofs.Ytmbkmfpnjpkakaa
