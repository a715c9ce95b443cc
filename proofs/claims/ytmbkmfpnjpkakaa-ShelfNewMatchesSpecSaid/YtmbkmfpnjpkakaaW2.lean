/- The program's shelf, contracts: arm, Peek, Rot, Lose, Misdirect, want, Kill, Mount, New, the laws' sanity, Text, Small, built without a script; plain facts; fields of an argument. -/
import Derived.Test.YtmbkmfpnjpkakaaW1
import Derived.Test.YtmbkmfpnjpkakaaL0
import Derived.Test.YtmbkmfpnjpkakaaL2
import Derived.Test.YtmbkmfpnjpkakaaR0
import Derived.Test.YtmbkmfpnjpkakaaR1

namespace Go.Im
open Go
section
variable {P : Program} {Q : Exit → Act → World → Prop} {o : Oper} {a : Act} {w : World} {K : Act → World → Prop}
theorem wp_allocR (t : TypeId) (hop : o.op = Op.alloc t) {z : Array Value} (hz : (zeroValue t).run P w = .ok (.agg z) w)
    (hK : ∀ w', w'.heap[w.heap.size]? = some (.cells z t (0, 0)) → Fr (fun _ => False) w w' → w'.heap.size = w.heap.size + 1 → K (a.put o.dst (.pointer (some ⟨w.heap.size, 0, none⟩))) w') : o.wp P a w K Q := by
  unfold Oper.wp
  simp only [execOp, hop, Instr.alloc, Sem.run_bind, hz, Result.andThen_ok, newVar, newRow, Value.cells, run_newObj, Sem.run_pure]
  exact hK (w.alloc _) (heap_alloc_new w _) ((Fr.refl _ _).alloc _) (by simp)
theorem wp_storeR (ty : TypeId) (x y : Operand) (hop : o.op = Op.store ty x y) {b : Nat} {vs : Array Value} (hx : a.eval x = .pointer (some ⟨b, 0, none⟩)) (hy : a.eval y = .agg vs)
    {cs : Array Value} {t : TypeId} (hb : w.heap[b]? = some (.cells cs t (0, 0))) (hsz : vs.size = cs.size) (hi : (P.info? ty).map (·.size) = some vs.size) (h1 : vs.all (·.oneCell') = true)
    (hK : ∀ w', w'.heap[b]? = some (.cells vs t (0, 0)) → Fr (fun i => i = b) w w' → w'.heap.size = w.heap.size → K (a.put o.dst undef) w') : o.wp P a w K Q := by
  refine wp_store_mid ty x y hop b 0 vs hx hy (there_of_blk hb (by omega)) hi h1 ?_
  obtain ⟨f1, f2⟩ := setCells_fr b vs.toList 0 w
  have := setCells_block b vs.toList 0 w _ _ _ hb
  rw [splice_whole cs vs hsz] at this
  exact hK _ this f1 f2
end
end Go.Im
namespace Go.Proofs.Ytmbkmfpnjpkakaa
open Go.RowKit Go.Im Go.Dsk0

/-- What arm leaves where the closure is called. -/
def ArmPost (w : World) (O : Nat → Prop) (s : Nat) (S : Shf0.Shelf) (p : Shf0.Place) (Post : Loc → Dsk → Int → World → World → Prop) (e : Ending) (w' : World) : Prop :=
  ∃ (r : Int) (w1 : World) (bs : List (Loc × Shf0.Bay)) (im : List (Loc × Dsk)) (bv iv : Value) (k : Nat) (L : Loc) (b : Shf0.Bay), e = .returned (.int .i64 r) ∧ Fr (fun _ => False) w w1 ∧ ShelfIn w1 O s S bs im bv iv ∧ p.disk = k ∧ bs[k]? = some (L, b) ∧ Post L b.D r w1 w'

section
variable {w : World} {O : Nat → Prop} {s : Nat} {S : Shf0.Shelf}

set_option maxRecDepth 100000 in
theorem arm_no (fv : Value) (ok : Bool) (h : ShelfAt w O s S) (p : Shf0.Place) (hn : ¬ (Shf0.there S p ∧ ok = true)) :
    Calls Try.prog 63 #[.pointer (some ⟨s, 0, none⟩), placeV p, .bool ok, fv] w fun e w' => e = .returned (.int .i64 1) ∧ Fr (fun _ => False) w w' := by
  have H := Lib.hid h
  obtain ⟨num, hnum⟩ : ∃ n, n = Shf0.number S p := ⟨_, rfl⟩
  have hneg := Shf0.number_neg h.ok p
  rw [← hnum] at hneg
  obtain ⟨d, area, idx⟩ := p
  have HNUM := Lib.hid hnum; clear hnum
  clear h
  unfold placeV
  simp only
  by_cases ht : Shf0.there S ⟨d, area, idx⟩
  · have hok : ok = false := by cases ok with
      | false => rfl
      | true => exact absurd ⟨ht, rfl⟩ hn
    subst hok
    have hn0 : ¬ num < 0 := fun h => hneg.1 h ht
    clear hneg hn ht
    go_enter Try.func63, Try.ntmps63
    go_wp2_with (first
      | (refine im_box rfl 25 _ rfl rfl ?_; intro w1 b1 f1 z1; have Z1 := Lib.hid z1; clear z1; obtain ⟨p0, p1, p2⟩ := plc_cells (p := ⟨d, area, idx⟩) b1; have hl1 := lt_of_blk b1; clear b1))
    refine (number_calls ⟨d, area, idx⟩ w1 (H.out.keep f1)).mono ?_; rintro e w2 ⟨rfl, f2⟩
    rw [← HNUM.out]
    go_wp2_with fail
    go_ret
    exact ⟨rfl, f1.trans f2⟩
  · have hn0 : num < 0 := hneg.2 ht
    clear hneg hn ht
    go_enter Try.func63, Try.ntmps63
    go_wp2_with (first
      | (refine im_box rfl 25 _ rfl rfl ?_; intro w1 b1 f1 z1; have Z1 := Lib.hid z1; clear z1; obtain ⟨p0, p1, p2⟩ := plc_cells (p := ⟨d, area, idx⟩) b1; have hl1 := lt_of_blk b1; clear b1))
    refine (number_calls ⟨d, area, idx⟩ w1 (H.out.keep f1)).mono ?_; rintro e w2 ⟨rfl, f2⟩
    rw [← HNUM.out]
    go_wp2_with fail
    go_ret
    exact ⟨rfl, f1.trans f2⟩

set_option maxRecDepth 100000 in
set_option maxHeartbeats 1000000 in
theorem arm_gone (fv : Value) (h : ShelfAt w O s S) (p : Shf0.Place) (ht : Shf0.there S p) (hst : Shf0.state S p.disk ≠ 1) :
    Calls Try.prog 63 #[.pointer (some ⟨s, 0, none⟩), placeV p, .bool true, fv] w fun e w' => e = .returned (.int .i64 15) ∧ Fr (fun _ => False) w w' := by
  have H := Lib.hid h
  have hdk := Shf0.there_disk ht
  have hbd := (Shf0.number_bd h.ok ht).1
  obtain ⟨num, hnum⟩ : ∃ n, n = Shf0.number S p := ⟨_, rfl⟩
  rw [← hnum] at hbd
  obtain ⟨d, area, idx⟩ := p
  simp only at hdk hst
  obtain ⟨k, rfl⟩ : ∃ k : Nat, d = k := ⟨d.toNat, by omega⟩
  have HNUM := Lib.hid hnum; clear hnum
  have hn0 : ¬ num < 0 := by omega
  obtain ⟨bs, im, bv, iv, hin⟩ := h
  obtain ⟨hp1, hp2, hp3⟩ := hin.pos
  obtain ⟨vb, cap, cur, rfl, hvb, hcz, hOv, hcell⟩ := hin.open_
  have hk : k < bs.length := by omega
  obtain ⟨⟨L, b⟩, hx⟩ : ∃ x, bs[k]? = some x := ⟨_, List.getElem?_eq_getElem hk⟩
  obtain ⟨c0, c1⟩ := hcell k _ hx
  rw [state_at hin hx] at hst
  simp only at c0 c1 hst
  obtain ⟨st, hste⟩ : ∃ st, st = b.st := ⟨_, rfl⟩
  rw [← hste] at c1 hst
  have hb1 : (st == 1) = false := by simp [hst]
  clear hste
  have hDK := Lib.hid (hin.kb _ (List.mem_of_getElem? hx))
  have HIN := Lib.hid hin
  have HX := Lib.hid hx
  have c6 : w.cell? ⟨s, 6, none⟩ = some (.slice (some ⟨vb, 0, none⟩) bs.length cap) := cell_of_blk hin.head
  have hslt := lt_of_blk hin.head
  have hvlt := lt_of_blk hvb
  have k0 : (0 : Int) ≤ k := by omega
  have k1 : (k : Int) < bs.length := by omega
  clear hcell hin hx hvb hcz hst ht hbd
  unfold placeV
  simp only
  go_enter Try.func63, Try.ntmps63
  go_wp2_with (first
    | (refine im_box rfl 25 _ rfl rfl ?_; intro w1 b1 f1 z1; have Z1 := Lib.hid z1; clear z1; obtain ⟨p0, p1, p2⟩ := plc_cells (p := ⟨(k : Int), area, idx⟩) b1; have hl1 := lt_of_blk b1; clear b1))
  refine (number_calls ⟨(k : Int), area, idx⟩ w1 (H.out.keep f1)).mono ?_; rintro e w2 ⟨rfl, f2⟩
  rw [← HNUM.out]
  have p0' := (f2.cb hl1 (fun h => h)).trans p0
  have f12 := f1.trans f2
  have c6' := (f12.cb hslt (fun h => h)).trans c6
  have c0' := (f12.cb hvlt (fun h => h)).trans c0
  have c1' := (f12.cb hvlt (fun h => h)).trans c1
  clear c6 c0 c1 p0 p1 p2
  go_wp2_with fail
  refine wp_region_seq (fun W => W.cell? ⟨s, 6, none⟩ = some (.slice (some ⟨vb, 0, none⟩) bs.length cap) ∧ W.cell? ⟨vb, k * 2, none⟩ = some L.ptr ∧ W.cell? ⟨vb, k * 2 + 1, none⟩ = some (.int .i64 st) ∧ W.cell? ⟨w.heap.size, 0, none⟩ = some (.int .i64 k)) [0, 1, 2, 3, 4, 5, 6, 7, 8, 9] [8, 9] (by kernel_rfl) (by kernel_rfl) (by kernel_rfl) ⟨c6', c0', c1', p0'⟩ ?_
  simp only [pickOps, List.filterMap_cons, List.filterMap_nil, List.getElem?_toArray, List.getElem?_cons_zero, List.getElem?_cons_succ, Option.map_some]
  repeat (refine seqH_read (v := ?_) (by rfl) (by rfl) ?_ ?_; rotate_left; (focus (intro W hS; (try dsimp only at hS); obtain ⟨s1, s2, s3, s4⟩ := hS; go_simp; try with_reducible rfl)); simp only [Act.put, List.setIfInBounds_toArray, List.set_cons_zero, List.set_cons_succ])
  refine seqH_eff (by rfl) (by rfl) fun K hK => ?_
  refine wp_allocR 106 rfl (zero106 _) ?_
  intro w3 b3 f3 z3
  replace f3 := f3.undrew
  have B3 := Lib.hid b3; clear b3
  refine hK.out _ _ ⟨(f3.cb (Nat.lt_of_lt_of_le hslt f12.size) (fun h => h)).trans c6', (f3.cb (Nat.lt_of_lt_of_le hvlt f12.size) (fun h => h)).trans c0', (f3.cb (Nat.lt_of_lt_of_le hvlt f12.size) (fun h => h)).trans c1', (f3.cb (Nat.lt_of_lt_of_le hl1 f2.size) (fun h => h)).trans p0'⟩ ?_
  simp only [Act.put, List.setIfInBounds_toArray, List.set_cons_zero, List.set_cons_succ]
  refine seqH_eff (by rfl) (by rfl) fun K hK => ?_
  refine wp_storeR 106 _ _ rfl (vs := #[L.ptr, .int .i64 st]) rfl rfl B3.out rfl info106 (bay_one _ rfl _) ?_
  intro w4 b4 f4 z4
  have hl1' := Nat.lt_of_lt_of_le hl1 f2.size
  have hslt' := Nat.lt_of_lt_of_le hslt f12.size
  have hvlt' := Nat.lt_of_lt_of_le hvlt f12.size
  have g4 : Fr (fun q => q = w2.heap.size) w2 w4 := f3.no.trans f4
  refine hK.out _ _ ⟨(g4.cb hslt' (by omega)).trans c6', (g4.cb hvlt' (by omega)).trans c0', (g4.cb hvlt' (by omega)).trans c1', (g4.cb hl1' (by omega)).trans p0'⟩ ?_
  refine seqH_nil ?_
  have ff : Fr (fun _ => False) w w4 := f12.trans' g4 (fun _ _ h => h) (fun q hq h => by have := f12.size; omega)
  have q0 : w4.cell? ⟨w2.heap.size, 0, none⟩ = some L.ptr := cell_of_blk b4
  have q1 : w4.cell? ⟨w2.heap.size, 1, none⟩ = some (.int .i64 st) := cell_of_blk b4
  have FF := Lib.hid ff
  clear c6' c0' c1' p0' hK f3 f4 z3 z4 b4 g4 B3 f12 f1 f2 ff
  go_wp2_with fail
  go_ret
  exact ⟨rfl, FF.out⟩

set_option maxRecDepth 100000 in
set_option maxHeartbeats 1000000 in
theorem arm_peek (cp : Value) (Post : Loc → Dsk → Int → World → World → Prop) (h : ShelfAt w O s S) (p : Shf0.Place) (ht : Shf0.there S p) (hst : Shf0.state S p.disk = 1)
    (hcall : ∀ (L : Loc) (D : Dsk) (t : Int) (w1 : World), Fr (fun _ => False) w w1 → DK w1 L D → Calls Try.prog 64 #[.agg #[L.ptr, .int .i64 t], .int .i64 (Shf0.number S p), cp] w1 fun e w' => ∃ r : Int, e = .returned (.int .i64 r) ∧ Post L D r w1 w') :
    Calls Try.prog 63 #[.pointer (some ⟨s, 0, none⟩), placeV p, .bool true, .func (.func 64) #[] #[cp]] w fun e w' => ArmPost w O s S p Post e w' := by
  have H := Lib.hid h
  have hdk := Shf0.there_disk ht
  have hbd := (Shf0.number_bd h.ok ht).1
  have HC := Lib.hid hcall; clear hcall
  obtain ⟨num, hnum⟩ : ∃ n, n = Shf0.number S p := ⟨_, rfl⟩
  rw [← hnum] at HC hbd
  obtain ⟨d, area, idx⟩ := p
  simp only at hdk hst
  obtain ⟨k, rfl⟩ : ∃ k : Nat, d = k := ⟨d.toNat, by omega⟩
  have HNUM := Lib.hid hnum; clear hnum
  have hn0 : ¬ num < 0 := by omega
  obtain ⟨bs, im, bv, iv, hin⟩ := h
  obtain ⟨hp1, hp2, hp3⟩ := hin.pos
  obtain ⟨vb, cap, cur, rfl, hvb, hcz, hOv, hcell⟩ := hin.open_
  have hk : k < bs.length := by omega
  obtain ⟨⟨L, b⟩, hx⟩ : ∃ x, bs[k]? = some x := ⟨_, List.getElem?_eq_getElem hk⟩
  obtain ⟨c0, c1⟩ := hcell k _ hx
  rw [state_at hin hx] at hst
  simp only at c0 c1 hst
  rw [hst] at c1
  have hDK := Lib.hid (hin.kb _ (List.mem_of_getElem? hx))
  have HIN := Lib.hid hin
  have HX := Lib.hid hx
  have c6 : w.cell? ⟨s, 6, none⟩ = some (.slice (some ⟨vb, 0, none⟩) bs.length cap) := cell_of_blk hin.head
  have hslt := lt_of_blk hin.head
  have hvlt := lt_of_blk hvb
  have k0 : (0 : Int) ≤ k := by omega
  have k1 : (k : Int) < bs.length := by omega
  clear hcell hin hx hvb hcz hst ht hbd
  unfold placeV
  simp only
  go_enter Try.func63, Try.ntmps63
  go_wp2_with (first
    | (refine im_box rfl 25 _ rfl rfl ?_; intro w1 b1 f1 z1; have Z1 := Lib.hid z1; clear z1; obtain ⟨p0, p1, p2⟩ := plc_cells (p := ⟨(k : Int), area, idx⟩) b1; have hl1 := lt_of_blk b1; clear b1))
  refine (number_calls ⟨(k : Int), area, idx⟩ w1 (H.out.keep f1)).mono ?_; rintro e w2 ⟨rfl, f2⟩
  rw [← HNUM.out]
  have p0' := (f2.cb hl1 (fun h => h)).trans p0
  have f12 := f1.trans f2
  have c6' := (f12.cb hslt (fun h => h)).trans c6
  have c0' := (f12.cb hvlt (fun h => h)).trans c0
  have c1' := (f12.cb hvlt (fun h => h)).trans c1
  clear c6 c0 c1 p0 p1 p2
  go_wp2_with fail
  refine wp_region_seq (fun W => W.cell? ⟨s, 6, none⟩ = some (.slice (some ⟨vb, 0, none⟩) bs.length cap) ∧ W.cell? ⟨vb, k * 2, none⟩ = some L.ptr ∧ W.cell? ⟨vb, k * 2 + 1, none⟩ = some (.int .i64 1) ∧ W.cell? ⟨w.heap.size, 0, none⟩ = some (.int .i64 k)) [0, 1, 2, 3, 4, 5, 6, 7, 8, 9] [8, 9] (by kernel_rfl) (by kernel_rfl) (by kernel_rfl) ⟨c6', c0', c1', p0'⟩ ?_
  simp only [pickOps, List.filterMap_cons, List.filterMap_nil, List.getElem?_toArray, List.getElem?_cons_zero, List.getElem?_cons_succ, Option.map_some]
  repeat (refine seqH_read (v := ?_) (by rfl) (by rfl) ?_ ?_; rotate_left; (focus (intro W hS; (try dsimp only at hS); obtain ⟨s1, s2, s3, s4⟩ := hS; go_simp; try with_reducible rfl)); simp only [Act.put, List.setIfInBounds_toArray, List.set_cons_zero, List.set_cons_succ])
  refine seqH_eff (by rfl) (by rfl) fun K hK => ?_
  refine wp_allocR 106 rfl (zero106 _) ?_
  intro w3 b3 f3 z3
  replace f3 := f3.undrew
  have B3 := Lib.hid b3; clear b3
  refine hK.out _ _ ⟨(f3.cb (Nat.lt_of_lt_of_le hslt f12.size) (fun h => h)).trans c6', (f3.cb (Nat.lt_of_lt_of_le hvlt f12.size) (fun h => h)).trans c0', (f3.cb (Nat.lt_of_lt_of_le hvlt f12.size) (fun h => h)).trans c1', (f3.cb (Nat.lt_of_lt_of_le hl1 f2.size) (fun h => h)).trans p0'⟩ ?_
  simp only [Act.put, List.setIfInBounds_toArray, List.set_cons_zero, List.set_cons_succ]
  refine seqH_eff (by rfl) (by rfl) fun K hK => ?_
  refine wp_storeR 106 _ _ rfl (vs := #[L.ptr, .int .i64 1]) rfl rfl B3.out rfl info106 (bay_one _ rfl _) ?_
  intro w4 b4 f4 z4
  have hl1' := Nat.lt_of_lt_of_le hl1 f2.size
  have hslt' := Nat.lt_of_lt_of_le hslt f12.size
  have hvlt' := Nat.lt_of_lt_of_le hvlt f12.size
  have g4 : Fr (fun q => q = w2.heap.size) w2 w4 := f3.no.trans f4
  refine hK.out _ _ ⟨(g4.cb hslt' (by omega)).trans c6', (g4.cb hvlt' (by omega)).trans c0', (g4.cb hvlt' (by omega)).trans c1', (g4.cb hl1' (by omega)).trans p0'⟩ ?_
  refine seqH_nil ?_
  have ff : Fr (fun _ => False) w w4 := f12.trans' g4 (fun _ _ h => h) (fun q hq h => by have := f12.size; omega)
  have q0 : w4.cell? ⟨w2.heap.size, 0, none⟩ = some L.ptr := cell_of_blk b4
  have q1 : w4.cell? ⟨w2.heap.size, 1, none⟩ = some (.int .i64 1) := cell_of_blk b4
  have FF := Lib.hid ff
  clear c6' c0' c1' p0' hK f3 f4 z3 z4 b4 g4 B3 f12 f1 f2 ff
  go_wp2_with fail
  refine (HC.out L b.D 1 w4 FF.out (hDK.out.keep FF.out)).mono ?_; rintro e w5 ⟨r, rfl, hpost⟩
  have HP := Lib.hid hpost; clear hpost
  go_wp2_with fail
  go_ret
  exact ⟨r, w4, bs, im, _, iv, k, L, b, rfl, FF.out, HIN.out.fr FF.out (fun _ _ h => h), rfl, HX.out, HP.out⟩

set_option maxRecDepth 100000 in
set_option maxHeartbeats 1000000 in
theorem arm_rot (cp : Value) (Post : Loc → Dsk → Int → World → World → Prop) (h : ShelfAt w O s S) (p : Shf0.Place) (ht : Shf0.there S p) (hst : Shf0.state S p.disk = 1)
    (hcall : ∀ (L : Loc) (D : Dsk) (t : Int) (w1 : World), Fr (fun _ => False) w w1 → DK w1 L D → Calls Try.prog 122 #[.agg #[L.ptr, .int .i64 t], .int .i64 (Shf0.number S p), cp] w1 fun e w' => ∃ r : Int, e = .returned (.int .i64 r) ∧ Post L D r w1 w') :
    Calls Try.prog 63 #[.pointer (some ⟨s, 0, none⟩), placeV p, .bool true, .func (.func 122) #[] #[cp]] w fun e w' => ArmPost w O s S p Post e w' := by
  have H := Lib.hid h
  have hdk := Shf0.there_disk ht
  have hbd := (Shf0.number_bd h.ok ht).1
  have HC := Lib.hid hcall; clear hcall
  obtain ⟨num, hnum⟩ : ∃ n, n = Shf0.number S p := ⟨_, rfl⟩
  rw [← hnum] at HC hbd
  obtain ⟨d, area, idx⟩ := p
  simp only at hdk hst
  obtain ⟨k, rfl⟩ : ∃ k : Nat, d = k := ⟨d.toNat, by omega⟩
  have HNUM := Lib.hid hnum; clear hnum
  have hn0 : ¬ num < 0 := by omega
  obtain ⟨bs, im, bv, iv, hin⟩ := h
  obtain ⟨hp1, hp2, hp3⟩ := hin.pos
  obtain ⟨vb, cap, cur, rfl, hvb, hcz, hOv, hcell⟩ := hin.open_
  have hk : k < bs.length := by omega
  obtain ⟨⟨L, b⟩, hx⟩ : ∃ x, bs[k]? = some x := ⟨_, List.getElem?_eq_getElem hk⟩
  obtain ⟨c0, c1⟩ := hcell k _ hx
  rw [state_at hin hx] at hst
  simp only at c0 c1 hst
  rw [hst] at c1
  have hDK := Lib.hid (hin.kb _ (List.mem_of_getElem? hx))
  have HIN := Lib.hid hin
  have HX := Lib.hid hx
  have c6 : w.cell? ⟨s, 6, none⟩ = some (.slice (some ⟨vb, 0, none⟩) bs.length cap) := cell_of_blk hin.head
  have hslt := lt_of_blk hin.head
  have hvlt := lt_of_blk hvb
  have k0 : (0 : Int) ≤ k := by omega
  have k1 : (k : Int) < bs.length := by omega
  clear hcell hin hx hvb hcz hst ht hbd
  unfold placeV
  simp only
  go_enter Try.func63, Try.ntmps63
  go_wp2_with (first
    | (refine im_box rfl 25 _ rfl rfl ?_; intro w1 b1 f1 z1; have Z1 := Lib.hid z1; clear z1; obtain ⟨p0, p1, p2⟩ := plc_cells (p := ⟨(k : Int), area, idx⟩) b1; have hl1 := lt_of_blk b1; clear b1))
  refine (number_calls ⟨(k : Int), area, idx⟩ w1 (H.out.keep f1)).mono ?_; rintro e w2 ⟨rfl, f2⟩
  rw [← HNUM.out]
  have p0' := (f2.cb hl1 (fun h => h)).trans p0
  have f12 := f1.trans f2
  have c6' := (f12.cb hslt (fun h => h)).trans c6
  have c0' := (f12.cb hvlt (fun h => h)).trans c0
  have c1' := (f12.cb hvlt (fun h => h)).trans c1
  clear c6 c0 c1 p0 p1 p2
  go_wp2_with fail
  refine wp_region_seq (fun W => W.cell? ⟨s, 6, none⟩ = some (.slice (some ⟨vb, 0, none⟩) bs.length cap) ∧ W.cell? ⟨vb, k * 2, none⟩ = some L.ptr ∧ W.cell? ⟨vb, k * 2 + 1, none⟩ = some (.int .i64 1) ∧ W.cell? ⟨w.heap.size, 0, none⟩ = some (.int .i64 k)) [0, 1, 2, 3, 4, 5, 6, 7, 8, 9] [8, 9] (by kernel_rfl) (by kernel_rfl) (by kernel_rfl) ⟨c6', c0', c1', p0'⟩ ?_
  simp only [pickOps, List.filterMap_cons, List.filterMap_nil, List.getElem?_toArray, List.getElem?_cons_zero, List.getElem?_cons_succ, Option.map_some]
  repeat (refine seqH_read (v := ?_) (by rfl) (by rfl) ?_ ?_; rotate_left; (focus (intro W hS; (try dsimp only at hS); obtain ⟨s1, s2, s3, s4⟩ := hS; go_simp; try with_reducible rfl)); simp only [Act.put, List.setIfInBounds_toArray, List.set_cons_zero, List.set_cons_succ])
  refine seqH_eff (by rfl) (by rfl) fun K hK => ?_
  refine wp_allocR 106 rfl (zero106 _) ?_
  intro w3 b3 f3 z3
  replace f3 := f3.undrew
  have B3 := Lib.hid b3; clear b3
  refine hK.out _ _ ⟨(f3.cb (Nat.lt_of_lt_of_le hslt f12.size) (fun h => h)).trans c6', (f3.cb (Nat.lt_of_lt_of_le hvlt f12.size) (fun h => h)).trans c0', (f3.cb (Nat.lt_of_lt_of_le hvlt f12.size) (fun h => h)).trans c1', (f3.cb (Nat.lt_of_lt_of_le hl1 f2.size) (fun h => h)).trans p0'⟩ ?_
  simp only [Act.put, List.setIfInBounds_toArray, List.set_cons_zero, List.set_cons_succ]
  refine seqH_eff (by rfl) (by rfl) fun K hK => ?_
  refine wp_storeR 106 _ _ rfl (vs := #[L.ptr, .int .i64 1]) rfl rfl B3.out rfl info106 (bay_one _ rfl _) ?_
  intro w4 b4 f4 z4
  have hl1' := Nat.lt_of_lt_of_le hl1 f2.size
  have hslt' := Nat.lt_of_lt_of_le hslt f12.size
  have hvlt' := Nat.lt_of_lt_of_le hvlt f12.size
  have g4 : Fr (fun q => q = w2.heap.size) w2 w4 := f3.no.trans f4
  refine hK.out _ _ ⟨(g4.cb hslt' (by omega)).trans c6', (g4.cb hvlt' (by omega)).trans c0', (g4.cb hvlt' (by omega)).trans c1', (g4.cb hl1' (by omega)).trans p0'⟩ ?_
  refine seqH_nil ?_
  have ff : Fr (fun _ => False) w w4 := f12.trans' g4 (fun _ _ h => h) (fun q hq h => by have := f12.size; omega)
  have q0 : w4.cell? ⟨w2.heap.size, 0, none⟩ = some L.ptr := cell_of_blk b4
  have q1 : w4.cell? ⟨w2.heap.size, 1, none⟩ = some (.int .i64 1) := cell_of_blk b4
  have FF := Lib.hid ff
  clear c6' c0' c1' p0' hK f3 f4 z3 z4 b4 g4 B3 f12 f1 f2 ff
  go_wp2_with fail
  refine (HC.out L b.D 1 w4 FF.out (hDK.out.keep FF.out)).mono ?_; rintro e w5 ⟨r, rfl, hpost⟩
  have HP := Lib.hid hpost; clear hpost
  go_wp2_with fail
  go_ret
  exact ⟨r, w4, bs, im, _, iv, k, L, b, rfl, FF.out, HIN.out.fr FF.out (fun _ _ h => h), rfl, HX.out, HP.out⟩

set_option maxRecDepth 100000 in
set_option maxHeartbeats 1000000 in
theorem arm_lose  (Post : Loc → Dsk → Int → World → World → Prop) (h : ShelfAt w O s S) (p : Shf0.Place) (ht : Shf0.there S p) (hst : Shf0.state S p.disk = 1)
    (hcall : ∀ (L : Loc) (D : Dsk) (t : Int) (w1 : World), Fr (fun _ => False) w w1 → DK w1 L D → Calls Try.prog 123 #[.agg #[L.ptr, .int .i64 t], .int .i64 (Shf0.number S p)] w1 fun e w' => ∃ r : Int, e = .returned (.int .i64 r) ∧ Post L D r w1 w') :
    Calls Try.prog 63 #[.pointer (some ⟨s, 0, none⟩), placeV p, .bool true, .func (.func 123) #[] #[]] w fun e w' => ArmPost w O s S p Post e w' := by
  have H := Lib.hid h
  have hdk := Shf0.there_disk ht
  have hbd := (Shf0.number_bd h.ok ht).1
  have HC := Lib.hid hcall; clear hcall
  obtain ⟨num, hnum⟩ : ∃ n, n = Shf0.number S p := ⟨_, rfl⟩
  rw [← hnum] at HC hbd
  obtain ⟨d, area, idx⟩ := p
  simp only at hdk hst
  obtain ⟨k, rfl⟩ : ∃ k : Nat, d = k := ⟨d.toNat, by omega⟩
  have HNUM := Lib.hid hnum; clear hnum
  have hn0 : ¬ num < 0 := by omega
  obtain ⟨bs, im, bv, iv, hin⟩ := h
  obtain ⟨hp1, hp2, hp3⟩ := hin.pos
  obtain ⟨vb, cap, cur, rfl, hvb, hcz, hOv, hcell⟩ := hin.open_
  have hk : k < bs.length := by omega
  obtain ⟨⟨L, b⟩, hx⟩ : ∃ x, bs[k]? = some x := ⟨_, List.getElem?_eq_getElem hk⟩
  obtain ⟨c0, c1⟩ := hcell k _ hx
  rw [state_at hin hx] at hst
  simp only at c0 c1 hst
  rw [hst] at c1
  have hDK := Lib.hid (hin.kb _ (List.mem_of_getElem? hx))
  have HIN := Lib.hid hin
  have HX := Lib.hid hx
  have c6 : w.cell? ⟨s, 6, none⟩ = some (.slice (some ⟨vb, 0, none⟩) bs.length cap) := cell_of_blk hin.head
  have hslt := lt_of_blk hin.head
  have hvlt := lt_of_blk hvb
  have k0 : (0 : Int) ≤ k := by omega
  have k1 : (k : Int) < bs.length := by omega
  clear hcell hin hx hvb hcz hst ht hbd
  unfold placeV
  simp only
  go_enter Try.func63, Try.ntmps63
  go_wp2_with (first
    | (refine im_box rfl 25 _ rfl rfl ?_; intro w1 b1 f1 z1; have Z1 := Lib.hid z1; clear z1; obtain ⟨p0, p1, p2⟩ := plc_cells (p := ⟨(k : Int), area, idx⟩) b1; have hl1 := lt_of_blk b1; clear b1))
  refine (number_calls ⟨(k : Int), area, idx⟩ w1 (H.out.keep f1)).mono ?_; rintro e w2 ⟨rfl, f2⟩
  rw [← HNUM.out]
  have p0' := (f2.cb hl1 (fun h => h)).trans p0
  have f12 := f1.trans f2
  have c6' := (f12.cb hslt (fun h => h)).trans c6
  have c0' := (f12.cb hvlt (fun h => h)).trans c0
  have c1' := (f12.cb hvlt (fun h => h)).trans c1
  clear c6 c0 c1 p0 p1 p2
  go_wp2_with fail
  refine wp_region_seq (fun W => W.cell? ⟨s, 6, none⟩ = some (.slice (some ⟨vb, 0, none⟩) bs.length cap) ∧ W.cell? ⟨vb, k * 2, none⟩ = some L.ptr ∧ W.cell? ⟨vb, k * 2 + 1, none⟩ = some (.int .i64 1) ∧ W.cell? ⟨w.heap.size, 0, none⟩ = some (.int .i64 k)) [0, 1, 2, 3, 4, 5, 6, 7, 8, 9] [8, 9] (by kernel_rfl) (by kernel_rfl) (by kernel_rfl) ⟨c6', c0', c1', p0'⟩ ?_
  simp only [pickOps, List.filterMap_cons, List.filterMap_nil, List.getElem?_toArray, List.getElem?_cons_zero, List.getElem?_cons_succ, Option.map_some]
  repeat (refine seqH_read (v := ?_) (by rfl) (by rfl) ?_ ?_; rotate_left; (focus (intro W hS; (try dsimp only at hS); obtain ⟨s1, s2, s3, s4⟩ := hS; go_simp; try with_reducible rfl)); simp only [Act.put, List.setIfInBounds_toArray, List.set_cons_zero, List.set_cons_succ])
  refine seqH_eff (by rfl) (by rfl) fun K hK => ?_
  refine wp_allocR 106 rfl (zero106 _) ?_
  intro w3 b3 f3 z3
  replace f3 := f3.undrew
  have B3 := Lib.hid b3; clear b3
  refine hK.out _ _ ⟨(f3.cb (Nat.lt_of_lt_of_le hslt f12.size) (fun h => h)).trans c6', (f3.cb (Nat.lt_of_lt_of_le hvlt f12.size) (fun h => h)).trans c0', (f3.cb (Nat.lt_of_lt_of_le hvlt f12.size) (fun h => h)).trans c1', (f3.cb (Nat.lt_of_lt_of_le hl1 f2.size) (fun h => h)).trans p0'⟩ ?_
  simp only [Act.put, List.setIfInBounds_toArray, List.set_cons_zero, List.set_cons_succ]
  refine seqH_eff (by rfl) (by rfl) fun K hK => ?_
  refine wp_storeR 106 _ _ rfl (vs := #[L.ptr, .int .i64 1]) rfl rfl B3.out rfl info106 (bay_one _ rfl _) ?_
  intro w4 b4 f4 z4
  have hl1' := Nat.lt_of_lt_of_le hl1 f2.size
  have hslt' := Nat.lt_of_lt_of_le hslt f12.size
  have hvlt' := Nat.lt_of_lt_of_le hvlt f12.size
  have g4 : Fr (fun q => q = w2.heap.size) w2 w4 := f3.no.trans f4
  refine hK.out _ _ ⟨(g4.cb hslt' (by omega)).trans c6', (g4.cb hvlt' (by omega)).trans c0', (g4.cb hvlt' (by omega)).trans c1', (g4.cb hl1' (by omega)).trans p0'⟩ ?_
  refine seqH_nil ?_
  have ff : Fr (fun _ => False) w w4 := f12.trans' g4 (fun _ _ h => h) (fun q hq h => by have := f12.size; omega)
  have q0 : w4.cell? ⟨w2.heap.size, 0, none⟩ = some L.ptr := cell_of_blk b4
  have q1 : w4.cell? ⟨w2.heap.size, 1, none⟩ = some (.int .i64 1) := cell_of_blk b4
  have FF := Lib.hid ff
  clear c6' c0' c1' p0' hK f3 f4 z3 z4 b4 g4 B3 f12 f1 f2 ff
  go_wp2_with fail
  refine (HC.out L b.D 1 w4 FF.out (hDK.out.keep FF.out)).mono ?_; rintro e w5 ⟨r, rfl, hpost⟩
  have HP := Lib.hid hpost; clear hpost
  go_wp2_with fail
  go_ret
  exact ⟨r, w4, bs, im, _, iv, k, L, b, rfl, FF.out, HIN.out.fr FF.out (fun _ _ h => h), rfl, HX.out, HP.out⟩

set_option maxRecDepth 100000 in
set_option maxHeartbeats 1000000 in
theorem arm_misdirect (cp : Value) (Post : Loc → Dsk → Int → World → World → Prop) (h : ShelfAt w O s S) (p : Shf0.Place) (ht : Shf0.there S p) (hst : Shf0.state S p.disk = 1)
    (hcall : ∀ (L : Loc) (D : Dsk) (t : Int) (w1 : World), Fr (fun _ => False) w w1 → DK w1 L D → Calls Try.prog 124 #[.agg #[L.ptr, .int .i64 t], .int .i64 (Shf0.number S p), cp] w1 fun e w' => ∃ r : Int, e = .returned (.int .i64 r) ∧ Post L D r w1 w') :
    Calls Try.prog 63 #[.pointer (some ⟨s, 0, none⟩), placeV p, .bool true, .func (.func 124) #[] #[cp]] w fun e w' => ArmPost w O s S p Post e w' := by
  have H := Lib.hid h
  have hdk := Shf0.there_disk ht
  have hbd := (Shf0.number_bd h.ok ht).1
  have HC := Lib.hid hcall; clear hcall
  obtain ⟨num, hnum⟩ : ∃ n, n = Shf0.number S p := ⟨_, rfl⟩
  rw [← hnum] at HC hbd
  obtain ⟨d, area, idx⟩ := p
  simp only at hdk hst
  obtain ⟨k, rfl⟩ : ∃ k : Nat, d = k := ⟨d.toNat, by omega⟩
  have HNUM := Lib.hid hnum; clear hnum
  have hn0 : ¬ num < 0 := by omega
  obtain ⟨bs, im, bv, iv, hin⟩ := h
  obtain ⟨hp1, hp2, hp3⟩ := hin.pos
  obtain ⟨vb, cap, cur, rfl, hvb, hcz, hOv, hcell⟩ := hin.open_
  have hk : k < bs.length := by omega
  obtain ⟨⟨L, b⟩, hx⟩ : ∃ x, bs[k]? = some x := ⟨_, List.getElem?_eq_getElem hk⟩
  obtain ⟨c0, c1⟩ := hcell k _ hx
  rw [state_at hin hx] at hst
  simp only at c0 c1 hst
  rw [hst] at c1
  have hDK := Lib.hid (hin.kb _ (List.mem_of_getElem? hx))
  have HIN := Lib.hid hin
  have HX := Lib.hid hx
  have c6 : w.cell? ⟨s, 6, none⟩ = some (.slice (some ⟨vb, 0, none⟩) bs.length cap) := cell_of_blk hin.head
  have hslt := lt_of_blk hin.head
  have hvlt := lt_of_blk hvb
  have k0 : (0 : Int) ≤ k := by omega
  have k1 : (k : Int) < bs.length := by omega
  clear hcell hin hx hvb hcz hst ht hbd
  unfold placeV
  simp only
  go_enter Try.func63, Try.ntmps63
  go_wp2_with (first
    | (refine im_box rfl 25 _ rfl rfl ?_; intro w1 b1 f1 z1; have Z1 := Lib.hid z1; clear z1; obtain ⟨p0, p1, p2⟩ := plc_cells (p := ⟨(k : Int), area, idx⟩) b1; have hl1 := lt_of_blk b1; clear b1))
  refine (number_calls ⟨(k : Int), area, idx⟩ w1 (H.out.keep f1)).mono ?_; rintro e w2 ⟨rfl, f2⟩
  rw [← HNUM.out]
  have p0' := (f2.cb hl1 (fun h => h)).trans p0
  have f12 := f1.trans f2
  have c6' := (f12.cb hslt (fun h => h)).trans c6
  have c0' := (f12.cb hvlt (fun h => h)).trans c0
  have c1' := (f12.cb hvlt (fun h => h)).trans c1
  clear c6 c0 c1 p0 p1 p2
  go_wp2_with fail
  refine wp_region_seq (fun W => W.cell? ⟨s, 6, none⟩ = some (.slice (some ⟨vb, 0, none⟩) bs.length cap) ∧ W.cell? ⟨vb, k * 2, none⟩ = some L.ptr ∧ W.cell? ⟨vb, k * 2 + 1, none⟩ = some (.int .i64 1) ∧ W.cell? ⟨w.heap.size, 0, none⟩ = some (.int .i64 k)) [0, 1, 2, 3, 4, 5, 6, 7, 8, 9] [8, 9] (by kernel_rfl) (by kernel_rfl) (by kernel_rfl) ⟨c6', c0', c1', p0'⟩ ?_
  simp only [pickOps, List.filterMap_cons, List.filterMap_nil, List.getElem?_toArray, List.getElem?_cons_zero, List.getElem?_cons_succ, Option.map_some]
  repeat (refine seqH_read (v := ?_) (by rfl) (by rfl) ?_ ?_; rotate_left; (focus (intro W hS; (try dsimp only at hS); obtain ⟨s1, s2, s3, s4⟩ := hS; go_simp; try with_reducible rfl)); simp only [Act.put, List.setIfInBounds_toArray, List.set_cons_zero, List.set_cons_succ])
  refine seqH_eff (by rfl) (by rfl) fun K hK => ?_
  refine wp_allocR 106 rfl (zero106 _) ?_
  intro w3 b3 f3 z3
  replace f3 := f3.undrew
  have B3 := Lib.hid b3; clear b3
  refine hK.out _ _ ⟨(f3.cb (Nat.lt_of_lt_of_le hslt f12.size) (fun h => h)).trans c6', (f3.cb (Nat.lt_of_lt_of_le hvlt f12.size) (fun h => h)).trans c0', (f3.cb (Nat.lt_of_lt_of_le hvlt f12.size) (fun h => h)).trans c1', (f3.cb (Nat.lt_of_lt_of_le hl1 f2.size) (fun h => h)).trans p0'⟩ ?_
  simp only [Act.put, List.setIfInBounds_toArray, List.set_cons_zero, List.set_cons_succ]
  refine seqH_eff (by rfl) (by rfl) fun K hK => ?_
  refine wp_storeR 106 _ _ rfl (vs := #[L.ptr, .int .i64 1]) rfl rfl B3.out rfl info106 (bay_one _ rfl _) ?_
  intro w4 b4 f4 z4
  have hl1' := Nat.lt_of_lt_of_le hl1 f2.size
  have hslt' := Nat.lt_of_lt_of_le hslt f12.size
  have hvlt' := Nat.lt_of_lt_of_le hvlt f12.size
  have g4 : Fr (fun q => q = w2.heap.size) w2 w4 := f3.no.trans f4
  refine hK.out _ _ ⟨(g4.cb hslt' (by omega)).trans c6', (g4.cb hvlt' (by omega)).trans c0', (g4.cb hvlt' (by omega)).trans c1', (g4.cb hl1' (by omega)).trans p0'⟩ ?_
  refine seqH_nil ?_
  have ff : Fr (fun _ => False) w w4 := f12.trans' g4 (fun _ _ h => h) (fun q hq h => by have := f12.size; omega)
  have q0 : w4.cell? ⟨w2.heap.size, 0, none⟩ = some L.ptr := cell_of_blk b4
  have q1 : w4.cell? ⟨w2.heap.size, 1, none⟩ = some (.int .i64 1) := cell_of_blk b4
  have FF := Lib.hid ff
  clear c6' c0' c1' p0' hK f3 f4 z3 z4 b4 g4 B3 f12 f1 f2 ff
  go_wp2_with fail
  refine (HC.out L b.D 1 w4 FF.out (hDK.out.keep FF.out)).mono ?_; rintro e w5 ⟨r, rfl, hpost⟩
  have HP := Lib.hid hpost; clear hpost
  go_wp2_with fail
  go_ret
  exact ⟨r, w4, bs, im, _, iv, k, L, b, rfl, FF.out, HIN.out.fr FF.out (fun _ _ h => h), rfl, HX.out, HP.out⟩
end
end Go.Proofs.Ytmbkmfpnjpkakaa

namespace Go.Proofs.Ytmbkmfpnjpkakaa
open Go.RowKit Go.Im Go.Dsk0

theorem zero9' (w : World) : (zeroValue 9).run Try.prog w = .ok (.string ⟨#[]⟩) w := by kernel_rfl

theorem peek1_calls (L : Loc) (D : Dsk) (t n : Int) (tb : Nat) (v0 : Value) (w : World) (h : DK w L D) (hb : w.heap[tb]? = some (.cells #[v0] 9 (0, 0))) :
    Calls Try.prog 64 #[.agg #[L.ptr, .int .i64 t], .int .i64 n, .pointer (some ⟨tb, 0, none⟩)] w fun e w' => e = .returned (.int .i64 (Dsk0.read D n).2) ∧ w'.heap[tb]? = some (.cells #[.string ⟨(Dsk0.read D n).1.toArray⟩] 9 (0, 0)) ∧ Fr (fun q => q = tb) w w' := by
  have H := Lib.hid h; clear h
  have HB := Lib.hid hb; clear hb
  have htl := lt_of_blk HB.out
  obtain ⟨X, hX⟩ : ∃ X : ByteArray, X = ⟨(Dsk0.read D n).1.toArray⟩ := ⟨_, rfl⟩
  obtain ⟨E, hE⟩ : ∃ E, E = (Dsk0.read D n).2 := ⟨_, rfl⟩
  rw [← hX, ← hE]
  unfold Loc.ptr
  go_enter Try.func64, Try.ntmps64
  go_wp2_with (first
    | (refine im_box rfl 106 _ rfl rfl ?_; intro w1 b1 f1 z1; have q0 : w1.cell? ⟨w.heap.size, 0, none⟩ = some (.pointer (some ⟨L.g, 0, none⟩)) := cell_of_blk b1; clear b1 z1))
  refine (read_calls L.g L.bd L.bc L.ba D n w1 (H.out.keep f1).disk).mono ?_; rintro e w2 ⟨rfl, f2⟩
  rw [← hX, ← hE]
  have HX := Lib.hid hX; clear hX
  have HE := Lib.hid hE; clear hE
  have f12 := f1.trans f2
  have HB2 := Lib.hid ((f12.block _ htl (fun h => h)).trans HB.out)
  go_wp2_with (first
    | (refine im_store1 rfl 9 _ _ rfl (b := tb) (j := 0) (v := .string X) rfl rfl rfl (by kernel_rfl) HB2.out (by simp) ?_; intro w3 b3 f3 z3; have B3 := Lib.hid b3; clear b3; clear z3))
  go_ret
  exact ⟨rfl, B3.out, f12.no.trans f3⟩

section
variable {w : World} {O : Nat → Prop} {s : Nat} {S : Shf0.Shelf}

/-- A sector of a bay in service can be read. -/
theorem read_ok {bs : List (Loc × Shf0.Bay)} {im : List (Loc × Dsk)} {bv iv : Value} (h : ShelfIn w O s S bs im bv iv) {p : Shf0.Place} (ht : Shf0.there S p) (hst : Shf0.state S p.disk = 1) {k : Nat} (hk : p.disk = k) {L : Loc} {b : Shf0.Bay} (hx : bs[k]? = some (L, b)) :
    Dsk0.has b.D (Shf0.number S p) = true ∧ Shf0.bayD S p.disk.toNat = b.D := by
  have hn := Shf0.number_bd h.ok ht
  have hb : b.st = 1 := by rw [hk, state_at h hx] at hst; exact hst
  have hlen : (b.D.length : Int) = Shf0.sectors S.cfg := h.ok.len b (by rw [h.eb]; exact List.mem_map.2 ⟨(L, b), List.mem_of_getElem? hx, rfl⟩) (by omega)
  exact ⟨has_iff.2 ⟨hn.1, by omega⟩, by rw [hk, Int.toNat_natCast]; exact bayD_at h hx⟩

set_option maxRecDepth 100000 in
set_option maxHeartbeats 1000000 in
theorem peek_calls (h : ShelfAt w O s S) (p : Shf0.Place) : Calls Try.prog 19 #[.pointer (some ⟨s, 0, none⟩), placeV p] w fun e w' => e = .returned (.tuple #[.string ⟨(Shf0.peek S p).1.toArray⟩, .bool (Shf0.peek S p).2]) ∧ Fr (fun _ => False) w w' := by
  have H := Lib.hid h
  obtain ⟨R, hR⟩ : ∃ R, R = Shf0.peek S p := ⟨_, rfl⟩
  have hR' : R = if Shf0.there S p ∧ Shf0.state S p.disk = 1 then ((Dsk0.read (Shf0.bayD S p.disk.toNat) (Shf0.number S p)).1, true) else ([], false) := by rw [hR]; rfl
  rw [← hR]
  clear hR
  clear h
  by_cases ht : Shf0.there S p
  · by_cases hst : Shf0.state S p.disk = 1
    · rw [if_pos ⟨ht, hst⟩] at hR'
      have HR := Lib.hid hR'; clear hR'
      have HT := Lib.hid (And.intro ht hst); clear ht hst
      obtain ⟨d, area, idx⟩ := p
      unfold placeV
      simp only
      go_enter Try.func19, Try.ntmps19
      go_wp2_with (first
        | (refine im_box rfl 25 _ rfl rfl ?_; intro w1 b1 f1 z1; have Z1 := Lib.hid z1; clear z1; obtain ⟨p0, p1, p2⟩ := plc_cells (p := ⟨d, area, idx⟩) b1; have hl1 := lt_of_blk b1; clear b1)
        | (refine im_alloc1 rfl 9 rfl (zero9' _) rfl ?_; intro w2 b2 f2 z2; have B2 := Lib.hid b2; clear b2; have Z2 := Lib.hid z2; clear z2; have p0' := (f2.cb hl1 (fun h => h)).trans p0; have p1' := (f2.cb hl1 (fun h => h)).trans p1; have p2' := (f2.cb hl1 (fun h => h)).trans p2))
      have f12 := f1.trans f2
      refine (arm_peek (.pointer (some ⟨w1.heap.size, 0, none⟩)) (fun L D r w3 w' => r = (Dsk0.read D (Shf0.number S ⟨d, area, idx⟩)).2 ∧ w'.heap[w1.heap.size]? = some (.cells #[.string ⟨(Dsk0.read D (Shf0.number S ⟨d, area, idx⟩)).1.toArray⟩] 9 (0, 0)) ∧ Fr (fun q => q = w1.heap.size) w3 w') (H.out.keep f12) ⟨d, area, idx⟩ HT.out.1 HT.out.2
        (fun L D t w3 hf hk => (peek1_calls L D t _ _ _ w3 hk ((hf.block _ (lt_of_blk B2.out) (fun h => h)).trans B2.out)).mono fun e w' ⟨he, h1, h2⟩ => ⟨_, he, rfl, h1, h2⟩)).mono ?_
      rintro e w4 ⟨r, w3, bs, im, bv, iv, k, L, b, rfl, f3, hin, hdk, hx, rfl, hb4, f4⟩
      obtain ⟨hhas, hbay⟩ := read_ok hin HT.out.1 HT.out.2 hdk hx
      have hrd : (Dsk0.read b.D (Shf0.number S ⟨d, area, idx⟩)).2 = 0 := by unfold Dsk0.read; rw [if_pos hhas]
      have hRe : R = ((Dsk0.read b.D (Shf0.number S ⟨d, area, idx⟩)).1, true) := by rw [HR.out, hbay]
      rw [hrd]
      subst hRe
      obtain ⟨X, hX⟩ : ∃ X : ByteArray, X = ⟨(Dsk0.read b.D (Shf0.number S ⟨d, area, idx⟩)).1.toArray⟩ := ⟨_, rfl⟩
      rw [← hX] at hb4
      have c9 : w4.cell? ⟨w1.heap.size, 0, none⟩ = some (.string X) := cell_of_blk hb4
      have HX := Lib.hid hX; clear hX
      have ff : Fr (fun _ => False) w w4 := (f12.trans f3).trans' f4 (fun _ _ h => h) (fun q hq h => by have := f1.size; omega)
      clear hb4 f4 f3 hin hx hhas hbay hrd f12 p0 p1 p2 p0' p1' p2' hdk
      go_wp2_with fail
      go_ret2
      exact ⟨by rw [← HX.out]; rfl, ff⟩
    · rw [if_neg (fun h => hst h.2)] at hR'
      subst hR'
      have HT := Lib.hid (And.intro ht hst); clear ht hst
      obtain ⟨d, area, idx⟩ := p
      unfold placeV
      simp only
      go_enter Try.func19, Try.ntmps19
      go_wp2_with (first
        | (refine im_box rfl 25 _ rfl rfl ?_; intro w1 b1 f1 z1; have Z1 := Lib.hid z1; clear z1; obtain ⟨p0, p1, p2⟩ := plc_cells (p := ⟨d, area, idx⟩) b1; have hl1 := lt_of_blk b1; clear b1)
        | (refine im_alloc1 rfl 9 rfl (zero9' _) rfl ?_; intro w2 b2 f2 z2; have B2 := Lib.hid b2; clear b2; have Z2 := Lib.hid z2; clear z2; have p0' := (f2.cb hl1 (fun h => h)).trans p0; have p1' := (f2.cb hl1 (fun h => h)).trans p1; have p2' := (f2.cb hl1 (fun h => h)).trans p2))
      have f12 := f1.trans f2
      refine (arm_gone _ (H.out.keep f12) ⟨d, area, idx⟩ HT.out.1 HT.out.2).mono ?_
      rintro e w4 ⟨rfl, f4⟩
      have c9 : w4.cell? ⟨w1.heap.size, 0, none⟩ = some (.string ⟨#[]⟩) := (f4.cb (lt_of_blk B2.out) (fun h => h)).trans (cell_of_blk B2.out)
      go_wp2_with fail
      go_ret2
      exact ⟨rfl, f12.trans f4⟩
  · rw [if_neg (fun h => ht h.1)] at hR'
    subst hR'
    have HT := Lib.hid ht; clear ht
    obtain ⟨d, area, idx⟩ := p
    unfold placeV
    simp only
    go_enter Try.func19, Try.ntmps19
    go_wp2_with (first
      | (refine im_box rfl 25 _ rfl rfl ?_; intro w1 b1 f1 z1; have Z1 := Lib.hid z1; clear z1; obtain ⟨p0, p1, p2⟩ := plc_cells (p := ⟨d, area, idx⟩) b1; have hl1 := lt_of_blk b1; clear b1)
      | (refine im_alloc1 rfl 9 rfl (zero9' _) rfl ?_; intro w2 b2 f2 z2; have B2 := Lib.hid b2; clear b2; have Z2 := Lib.hid z2; clear z2; have p0' := (f2.cb hl1 (fun h => h)).trans p0; have p1' := (f2.cb hl1 (fun h => h)).trans p1; have p2' := (f2.cb hl1 (fun h => h)).trans p2))
    have f12 := f1.trans f2
    refine (arm_no _ true (H.out.keep f12) ⟨d, area, idx⟩ (fun h => HT.out h.1)).mono ?_
    rintro e w4 ⟨rfl, f4⟩
    have c9 : w4.cell? ⟨w1.heap.size, 0, none⟩ = some (.string ⟨#[]⟩) := (f4.cb (lt_of_blk B2.out) (fun h => h)).trans (cell_of_blk B2.out)
    go_wp2_with fail
    go_ret2
    exact ⟨rfl, f12.trans f4⟩
end
end Go.Proofs.Ytmbkmfpnjpkakaa

namespace Go.Proofs.Ytmbkmfpnjpkakaa
open Go.RowKit Go.Im Go.Dsk0

theorem rot1_calls (L : Loc) (D : Dsk) (t n : Int) (m : Int) (mb : Nat) (w : World) (h : DK w L D) (hm : w.cell? ⟨mb, 0, none⟩ = some (.int .i64 m)) :
    Calls Try.prog 122 #[.agg #[L.ptr, .int .i64 t], .int .i64 n, .pointer (some ⟨mb, 0, none⟩)] w fun e w' => e = .returned (.int .i64 (Dsk0.rot D n m).1) ∧ DiskAt w' L.g L.bd L.bc L.ba (Dsk0.rot D n m).2 ∧ Fr L.foot w w' := by
  have H := Lib.hid h; clear h
  have hml : mb < w.heap.size := World.block_lt_of_cell? w ⟨mb, 0, none⟩ hm
  unfold Loc.ptr
  go_enter Try.func122, Try.ntmps122
  go_wp2_with (first
    | (refine im_box rfl 106 _ rfl rfl ?_; intro w1 b1 f1 z1; have q0 : w1.cell? ⟨w.heap.size, 0, none⟩ = some (.pointer (some ⟨L.g, 0, none⟩)) := cell_of_blk b1; have q1 := (f1.cb hml (fun h => h)).trans hm; clear b1 z1))
  refine (rot_calls L.g L.bd L.bc L.ba D n m w1 (H.out.keep f1).disk).mono ?_; rintro e w2 ⟨rfl, d2, f2⟩
  have D2 := Lib.hid d2; clear d2
  go_wp2_with fail
  go_ret
  exact ⟨rfl, D2.out, f1.no.trans f2⟩

theorem lose1_calls (L : Loc) (D : Dsk) (t n : Int) (w : World) (h : DK w L D) :
    Calls Try.prog 123 #[.agg #[L.ptr, .int .i64 t], .int .i64 n] w fun e w' => e = .returned (.int .i64 (Dsk0.lose D n).1) ∧ DiskAt w' L.g L.bd L.bc L.ba (Dsk0.lose D n).2 ∧ Fr L.foot w w' := by
  have H := Lib.hid h; clear h
  skip
  unfold Loc.ptr
  go_enter Try.func123, Try.ntmps123
  go_wp2_with (first
    | (refine im_box rfl 106 _ rfl rfl ?_; intro w1 b1 f1 z1; have q0 : w1.cell? ⟨w.heap.size, 0, none⟩ = some (.pointer (some ⟨L.g, 0, none⟩)) := cell_of_blk b1; clear b1 z1))
  refine (lose_calls L.g L.bd L.bc L.ba D n w1 (H.out.keep f1).disk).mono ?_; rintro e w2 ⟨rfl, d2, f2⟩
  have D2 := Lib.hid d2; clear d2
  go_wp2_with fail
  go_ret
  exact ⟨rfl, D2.out, f1.no.trans f2⟩

theorem misdirect1_calls (L : Loc) (D : Dsk) (t n : Int) (m : Int) (mb : Nat) (w : World) (h : DK w L D) (hm : w.cell? ⟨mb, 0, none⟩ = some (.int .i64 m)) :
    Calls Try.prog 124 #[.agg #[L.ptr, .int .i64 t], .int .i64 n, .pointer (some ⟨mb, 0, none⟩)] w fun e w' => e = .returned (.int .i64 (Dsk0.misdirect D n m).1) ∧ DiskAt w' L.g L.bd L.bc L.ba (Dsk0.misdirect D n m).2 ∧ Fr L.foot w w' := by
  have H := Lib.hid h; clear h
  have hml : mb < w.heap.size := World.block_lt_of_cell? w ⟨mb, 0, none⟩ hm
  unfold Loc.ptr
  go_enter Try.func124, Try.ntmps124
  go_wp2_with (first
    | (refine im_box rfl 106 _ rfl rfl ?_; intro w1 b1 f1 z1; have q0 : w1.cell? ⟨w.heap.size, 0, none⟩ = some (.pointer (some ⟨L.g, 0, none⟩)) := cell_of_blk b1; have q1 := (f1.cb hml (fun h => h)).trans hm; clear b1 z1))
  refine (misdirect_calls L.g L.bd L.bc L.ba D n m w1 (H.out.keep f1).disk).mono ?_; rintro e w2 ⟨rfl, d2, f2⟩
  have D2 := Lib.hid d2; clear d2
  go_wp2_with fail
  go_ret
  exact ⟨rfl, D2.out, f1.no.trans f2⟩

theorem rot_length (D : Dsk) (n b : Int) : (Dsk0.rot D n b).2.length = D.length := by
  unfold Dsk0.rot
  split <;> simp [rotC, rotD]
theorem lose_length (D : Dsk) (n : Int) : (Dsk0.lose D n).2.length = D.length := by
  unfold Dsk0.lose
  split <;> simp [Dsk0.arm]
theorem misdirect_length (D : Dsk) (n t : Int) : (Dsk0.misdirect D n t).2.length = D.length := by
  unfold Dsk0.misdirect
  split <;> simp [Dsk0.arm]

section
variable {w : World} {O : Nat → Prop} {s : Nat} {S : Shf0.Shelf}

/-- A disk turned behind arm. -/
theorem arm_turned {w : World} (F : Dsk → Int × Dsk) (hF : ∀ D, (F D).2.length = D.length) (p : Shf0.Place) {e : Ending} {w' : World} (w0 : World) (hf : Fr (fun _ => False) w0 w)
    (h : ArmPost w O s S p (fun L D r w1 w' => r = (F D).1 ∧ DiskAt w' L.g L.bd L.bc L.ba (F D).2 ∧ Fr L.foot w1 w') e w') :
    e = .returned (.int .i64 (F (Shf0.bayD S p.disk.toNat)).1) ∧ ShelfAt w' O s (Shf0.turnD S p.disk.toNat fun D => (F D).2) ∧ Fr O w0 w' := by
  obtain ⟨r, w1, bs, im, bv, iv, k, L, b, rfl, f1, hin, hdk, hx, rfl, hd, f2⟩ := h
  have hD := hin.kb _ (List.mem_of_getElem? hx)
  rw [hdk, Int.toNat_natCast, bayD_at hin hx]
  exact ⟨rfl, ⟨_, _, _, _, hin.turn (F := fun D => (F D).2) hx f2 (hD.turn hd (hF _) f2.size) (hF _)⟩, (hf.trans f1).no.trans (f2.mono fun q _ hq => foot_in hin hx q (.inr hq))⟩

set_option maxRecDepth 100000 in
set_option maxHeartbeats 1000000 in
theorem slose_calls (h : ShelfAt w O s S) (p : Shf0.Place) : Calls Try.prog 115 #[.pointer (some ⟨s, 0, none⟩), placeV p] w fun e w' => e = .returned (.int .i64 (Shf0.lose S p).1) ∧ ShelfAt w' O s (Shf0.lose S p).2 ∧ Fr O w w' := by
  have H := Lib.hid h; clear h
  obtain ⟨R, hR⟩ : ∃ R, R = Shf0.lose S p := ⟨_, rfl⟩
  have hR' : R = if Shf0.there S p ∧ true = true then (if Shf0.state S p.disk = 1 then ((Dsk0.lose (Shf0.bayD S p.disk.toNat) (Shf0.number S p)).1, Shf0.turnD S p.disk.toNat fun D => (Dsk0.lose D (Shf0.number S p)).2) else (15, S)) else (1, S) := by rw [hR]; rfl
  rw [← hR]
  clear hR
  have HR := Lib.hid hR'; clear hR'
  have hcl : ∀ w1, Fr (fun _ => False) w w1 → Calls Try.prog 63 #[.pointer (some ⟨s, 0, none⟩), placeV p, .bool true, .func (.func 123) #[] #[]] w1 fun e w' => e = .returned (.int .i64 R.1) ∧ ShelfAt w' O s R.2 ∧ Fr O w w' := fun w1 f1 => by
    by_cases ht : Shf0.there S p
    · by_cases hst : Shf0.state S p.disk = 1
      · have hRe := HR.out
        rw [if_pos ⟨ht, rfl⟩, if_pos hst] at hRe
        rw [hRe]
        exact (arm_lose (fun L D r w1 w' => r = (Dsk0.lose D (Shf0.number S p)).1 ∧ DiskAt w' L.g L.bd L.bc L.ba (Dsk0.lose D (Shf0.number S p)).2 ∧ Fr L.foot w1 w') (H.out.keep f1) p ht hst (fun L D t w3 hf hk => (lose1_calls L D t _ w3 hk).mono fun e w' ⟨he, h1, h2⟩ => ⟨_, he, rfl, h1, h2⟩)).mono fun e w' hp => arm_turned (fun D => Dsk0.lose D (Shf0.number S p)) (fun D => lose_length D _) p w f1 hp
      · have hRe := HR.out
        rw [if_pos ⟨ht, rfl⟩, if_neg hst] at hRe
        rw [hRe]
        exact (arm_gone _ (H.out.keep f1) p ht hst).mono fun e w' ⟨he, hf⟩ => ⟨he, H.out.keep (f1.trans hf), (f1.trans hf).no⟩
    · have hRe := HR.out
      rw [if_neg (fun h => ht h.1)] at hRe
      rw [hRe]
      exact (arm_no _ true (H.out.keep f1) p (fun h => ht h.1)).mono fun e w' ⟨he, hf⟩ => ⟨he, H.out.keep (f1.trans hf), (f1.trans hf).no⟩
  have HCL := Lib.hid hcl; clear hcl
  obtain ⟨d, area, idx⟩ := p
  unfold placeV at HCL ⊢
  simp only at HCL ⊢
  go_enter Try.func115, Try.ntmps115
  go_wp2_with (first
    | (refine im_box rfl 25 _ rfl rfl ?_; intro w1 b1 f1 z1; have Z1 := Lib.hid z1; clear z1; obtain ⟨p0, p1, p2⟩ := plc_cells (p := ⟨d, area, idx⟩) b1; have hl1 := lt_of_blk b1; clear b1))
  refine (HCL.out w1 f1).mono ?_; rintro e w2 ⟨rfl, s2, f2⟩
  have S2 := Lib.hid s2; clear s2
  go_wp2_with fail
  go_ret
  exact ⟨rfl, S2.out, f2⟩

set_option maxRecDepth 100000 in
set_option maxHeartbeats 1000000 in
theorem srot_calls (h : ShelfAt w O s S) (p : Shf0.Place) (m : Int) : Calls Try.prog 114 #[.pointer (some ⟨s, 0, none⟩), placeV p, .int .i64 m] w fun e w' => e = .returned (.int .i64 (Shf0.rot S p m).1) ∧ ShelfAt w' O s (Shf0.rot S p m).2 ∧ Fr O w w' := by
  have H := Lib.hid h; clear h
  obtain ⟨ok, hok⟩ : ∃ ok, ok = decide (0 ≤ m ∧ m < 512) := ⟨_, rfl⟩
  obtain ⟨R, hR⟩ : ∃ R, R = Shf0.rot S p m := ⟨_, rfl⟩
  have hR' : R = if Shf0.there S p ∧ ok = true then (if Shf0.state S p.disk = 1 then ((Dsk0.rot (Shf0.bayD S p.disk.toNat) (Shf0.number S p) m).1, Shf0.turnD S p.disk.toNat fun D => (Dsk0.rot D (Shf0.number S p) m).2) else (15, S)) else (1, S) := by rw [hR, hok]; rfl
  rw [← hR]
  clear hR
  have HR := Lib.hid hR'; clear hR'
  have hcl : ∀ w1 mb, Fr (fun _ => False) w w1 → w1.cell? ⟨mb, 0, none⟩ = some (.int .i64 m) → Calls Try.prog 63 #[.pointer (some ⟨s, 0, none⟩), placeV p, .bool ok, .func (.func 122) #[] #[.pointer (some ⟨mb, 0, none⟩)]] w1 fun e w' => e = .returned (.int .i64 R.1) ∧ ShelfAt w' O s R.2 ∧ Fr O w w' := fun w1 mb f1 hm => by
    by_cases ht : Shf0.there S p ∧ ok = true
    · obtain ⟨ht, hk1⟩ := ht
      by_cases hst : Shf0.state S p.disk = 1
      · have hRe := HR.out
        rw [if_pos ⟨ht, hk1⟩, if_pos hst] at hRe
        rw [hRe, hk1]
        exact (arm_rot _ (fun L D r w1 w' => r = (Dsk0.rot D (Shf0.number S p) m).1 ∧ DiskAt w' L.g L.bd L.bc L.ba (Dsk0.rot D (Shf0.number S p) m).2 ∧ Fr L.foot w1 w') (H.out.keep f1) p ht hst (fun L D t w3 hf hk => (rot1_calls L D t _ m mb w3 hk ((hf.cb (World.block_lt_of_cell? w1 ⟨mb, 0, none⟩ hm) (fun h => h)).trans hm)).mono fun e w' ⟨he, h1, h2⟩ => ⟨_, he, rfl, h1, h2⟩)).mono fun e w' hp => arm_turned (fun D => Dsk0.rot D (Shf0.number S p) m) (fun D => rot_length D _ _) p w f1 hp
      · have hRe := HR.out
        rw [if_pos ⟨ht, hk1⟩, if_neg hst] at hRe
        rw [hRe, hk1]
        exact (arm_gone _ (H.out.keep f1) p ht hst).mono fun e w' ⟨he, hf⟩ => ⟨he, H.out.keep (f1.trans hf), (f1.trans hf).no⟩
    · have hRe := HR.out
      rw [if_neg ht] at hRe
      rw [hRe]
      exact (arm_no _ ok (H.out.keep f1) p ht).mono fun e w' ⟨he, hf⟩ => ⟨he, H.out.keep (f1.trans hf), (f1.trans hf).no⟩
  have HCL := Lib.hid hcl; clear hcl
  obtain ⟨d, area, idx⟩ := p
  unfold placeV at HCL ⊢
  simp only at HCL ⊢
  by_cases h0 : 0 ≤ m
  · have hok2 : ok = decide (m < 512) := by rw [hok]; simp [h0]
    subst hok2
    clear hok
    go_enter Try.func114, Try.ntmps114
    go_wp2_with (first
      | (refine im_box rfl 25 _ rfl rfl ?_; intro w1 b1 f1 z1; have Z1 := Lib.hid z1; clear z1; obtain ⟨p0, p1, p2⟩ := plc_cells (p := ⟨d, area, idx⟩) b1; have hl1 := lt_of_blk b1; clear b1)
      | (refine im_box rfl 3 _ rfl rfl ?_; intro w2 b2 f2 z2; have Z2 := Lib.hid z2; clear z2; have q0 : w2.cell? ⟨w1.heap.size, 0, none⟩ = some (.int .i64 m) := cell_of_blk b2; clear b2; have p0' := (f2.cb hl1 (fun h => h)).trans p0; have p1' := (f2.cb hl1 (fun h => h)).trans p1; have p2' := (f2.cb hl1 (fun h => h)).trans p2))
    refine (HCL.out w2 w1.heap.size (f1.trans f2) q0).mono ?_; rintro e w3 ⟨rfl, s3, f3⟩
    have S3 := Lib.hid s3; clear s3
    go_wp2_with fail
    go_ret
    exact ⟨rfl, S3.out, f3⟩
  · have hok2 : ok = false := by rw [hok]; simp [h0]
    subst hok2
    clear hok
    go_enter Try.func114, Try.ntmps114
    go_wp2_with (first
      | (refine im_box rfl 25 _ rfl rfl ?_; intro w1 b1 f1 z1; have Z1 := Lib.hid z1; clear z1; obtain ⟨p0, p1, p2⟩ := plc_cells (p := ⟨d, area, idx⟩) b1; have hl1 := lt_of_blk b1; clear b1)
      | (refine im_box rfl 3 _ rfl rfl ?_; intro w2 b2 f2 z2; have Z2 := Lib.hid z2; clear z2; have q0 : w2.cell? ⟨w1.heap.size, 0, none⟩ = some (.int .i64 m) := cell_of_blk b2; clear b2; have p0' := (f2.cb hl1 (fun h => h)).trans p0; have p1' := (f2.cb hl1 (fun h => h)).trans p1; have p2' := (f2.cb hl1 (fun h => h)).trans p2))
    refine (HCL.out w2 w1.heap.size (f1.trans f2) q0).mono ?_; rintro e w3 ⟨rfl, s3, f3⟩
    have S3 := Lib.hid s3; clear s3
    go_wp2_with fail
    go_ret
    exact ⟨rfl, S3.out, f3⟩

set_option maxRecDepth 100000 in
set_option maxHeartbeats 1000000 in
theorem smisdirect_calls (h : ShelfAt w O s S) (p q : Shf0.Place) : Calls Try.prog 116 #[.pointer (some ⟨s, 0, none⟩), placeV p, placeV q] w fun e w' => e = .returned (.int .i64 (Shf0.misdirect S p q).1) ∧ ShelfAt w' O s (Shf0.misdirect S p q).2 ∧ Fr O w w' := by
  have H := Lib.hid h; clear h
  obtain ⟨m, hm⟩ : ∃ m, m = Shf0.number S q := ⟨_, rfl⟩
  obtain ⟨ok, hok⟩ : ∃ ok, ok = decide (0 ≤ m ∧ p.disk = q.disk) := ⟨_, rfl⟩
  obtain ⟨R, hR⟩ : ∃ R, R = Shf0.misdirect S p q := ⟨_, rfl⟩
  have hR' : R = if Shf0.there S p ∧ ok = true then (if Shf0.state S p.disk = 1 then ((Dsk0.misdirect (Shf0.bayD S p.disk.toNat) (Shf0.number S p) m).1, Shf0.turnD S p.disk.toNat fun D => (Dsk0.misdirect D (Shf0.number S p) m).2) else (15, S)) else (1, S) := by rw [hR, hok, hm]; rfl
  rw [← hR]
  clear hR
  have HM := Lib.hid hm; clear hm
  have HR := Lib.hid hR'; clear hR'
  have hcl : ∀ w1 mb, Fr (fun _ => False) w w1 → w1.cell? ⟨mb, 0, none⟩ = some (.int .i64 m) → Calls Try.prog 63 #[.pointer (some ⟨s, 0, none⟩), placeV p, .bool ok, .func (.func 124) #[] #[.pointer (some ⟨mb, 0, none⟩)]] w1 fun e w' => e = .returned (.int .i64 R.1) ∧ ShelfAt w' O s R.2 ∧ Fr O w w' := fun w1 mb f1 hm => by
    by_cases ht : Shf0.there S p ∧ ok = true
    · obtain ⟨ht, hk1⟩ := ht
      by_cases hst : Shf0.state S p.disk = 1
      · have hRe := HR.out
        rw [if_pos ⟨ht, hk1⟩, if_pos hst] at hRe
        rw [hRe, hk1]
        exact (arm_misdirect _ (fun L D r w1 w' => r = (Dsk0.misdirect D (Shf0.number S p) m).1 ∧ DiskAt w' L.g L.bd L.bc L.ba (Dsk0.misdirect D (Shf0.number S p) m).2 ∧ Fr L.foot w1 w') (H.out.keep f1) p ht hst (fun L D t w3 hf hk => (misdirect1_calls L D t _ m mb w3 hk ((hf.cb (World.block_lt_of_cell? w1 ⟨mb, 0, none⟩ hm) (fun h => h)).trans hm)).mono fun e w' ⟨he, h1, h2⟩ => ⟨_, he, rfl, h1, h2⟩)).mono fun e w' hp => arm_turned (fun D => Dsk0.misdirect D (Shf0.number S p) m) (fun D => misdirect_length D _ _) p w f1 hp
      · have hRe := HR.out
        rw [if_pos ⟨ht, hk1⟩, if_neg hst] at hRe
        rw [hRe, hk1]
        exact (arm_gone _ (H.out.keep f1) p ht hst).mono fun e w' ⟨he, hf⟩ => ⟨he, H.out.keep (f1.trans hf), (f1.trans hf).no⟩
    · have hRe := HR.out
      rw [if_neg ht] at hRe
      rw [hRe]
      exact (arm_no _ ok (H.out.keep f1) p ht).mono fun e w' ⟨he, hf⟩ => ⟨he, H.out.keep (f1.trans hf), (f1.trans hf).no⟩
  have HCL := Lib.hid hcl; clear hcl
  obtain ⟨d, area, idx⟩ := p
  obtain ⟨d2, area2, idx2⟩ := q
  simp only at hok
  unfold placeV at HCL ⊢
  simp only at HCL ⊢
  have hcase : ok = (decide (0 ≤ m) && (d == d2)) := by
    rw [hok]
    by_cases h0 : 0 ≤ m <;> by_cases h1 : d = d2 <;> simp [h0, h1]
  have HOK := Lib.hid hcase
  clear hok
  by_cases h0 : 0 ≤ m
  · have hok2 : ok = (d == d2) := by rw [hcase]; simp [h0]
    subst hok2
    clear hcase HOK
    go_enter Try.func116, Try.ntmps116
    go_wp2_with (first
      | (refine im_box (o := ⟨some 4, _, _, _, _, _⟩) rfl 25 _ rfl rfl ?_; intro w1 b1 f1 z1; have Z1 := Lib.hid z1; clear z1; obtain ⟨p0, p1, p2⟩ := plc_cells (p := ⟨d, area, idx⟩) b1; have hl1 := lt_of_blk b1; clear b1)
      | (refine im_box (o := ⟨some 5, _, _, _, _, _⟩) rfl 25 _ rfl rfl ?_; intro w2 b2 f2 z2; have Z2 := Lib.hid z2; clear z2; obtain ⟨q0, q1, q2⟩ := plc_cells (p := ⟨d2, area2, idx2⟩) b2; have hl2 := lt_of_blk b2; clear b2; have p0' := (f2.cb hl1 (fun h => h)).trans p0; have p1' := (f2.cb hl1 (fun h => h)).trans p1; have p2' := (f2.cb hl1 (fun h => h)).trans p2))
    refine (number_calls ⟨d2, area2, idx2⟩ w2 (H.out.keep (f1.trans f2))).mono ?_; rintro e w3 ⟨rfl, f3⟩
    rw [← HM.out]
    have hl1' := Nat.lt_of_lt_of_le hl1 f2.size
    have r0 := (f3.cb hl1' (fun h => h)).trans p0'
    have r1 := (f3.cb hl1' (fun h => h)).trans p1'
    have r2 := (f3.cb hl1' (fun h => h)).trans p2'
    have t0 := (f3.cb hl2 (fun h => h)).trans q0
    clear p0 p1 p2 p0' p1' p2' q0 q1 q2
    go_wp2_with (first
      | (refine im_alloc1 rfl 3 rfl (zero3 _) rfl ?_; intro w4 b4 f4 z4; have B4 := Lib.hid b4; clear b4; have Z4 := Lib.hid z4; clear z4)
      | (refine im_store1 rfl 3 _ _ rfl (v := .int .i64 m) rfl rfl rfl (by kernel_rfl) B4.out (by simp) ?_; intro w5 b5 f5 z5; have u0 : w5.cell? ⟨w3.heap.size, 0, none⟩ = some (.int .i64 m) := cell_of_blk b5; clear b5; have Z5 := Lib.hid z5; clear z5; have hls := f3.size; have g5 : Fr (fun q => q = w3.heap.size) w3 w5 := f4.no.trans f5; have r05 := (g5.cb (b := w.heap.size) (by omega) (by omega)).trans r0; have r15 := (g5.cb (b := w.heap.size) (by omega) (by omega)).trans r1; have r25 := (g5.cb (b := w.heap.size) (by omega) (by omega)).trans r2; have t05 := (g5.cb (b := w1.heap.size) (by omega) (by omega)).trans t0))
    have hw3 := f3.size
    have hz1 := Z1.out
    have hw2 := f2.size
    have ff : Fr (fun _ => False) w w5 := ((f1.trans f2).trans f3).trans' g5 (fun _ _ h => h) (fun i hi h => by omega)
    refine (HCL.out w5 w3.heap.size ff u0).mono ?_; rintro e w6 ⟨rfl, s6, f6⟩
    have S6 := Lib.hid s6; clear s6
    go_wp2_with fail
    go_ret
    exact ⟨rfl, S6.out, f6⟩
  · have hok2 : ok = false := by rw [hcase]; simp [h0]
    subst hok2
    clear hcase HOK
    go_enter Try.func116, Try.ntmps116
    go_wp2_with (first
      | (refine im_box (o := ⟨some 4, _, _, _, _, _⟩) rfl 25 _ rfl rfl ?_; intro w1 b1 f1 z1; have Z1 := Lib.hid z1; clear z1; obtain ⟨p0, p1, p2⟩ := plc_cells (p := ⟨d, area, idx⟩) b1; have hl1 := lt_of_blk b1; clear b1)
      | (refine im_box (o := ⟨some 5, _, _, _, _, _⟩) rfl 25 _ rfl rfl ?_; intro w2 b2 f2 z2; have Z2 := Lib.hid z2; clear z2; obtain ⟨q0, q1, q2⟩ := plc_cells (p := ⟨d2, area2, idx2⟩) b2; have hl2 := lt_of_blk b2; clear b2; have p0' := (f2.cb hl1 (fun h => h)).trans p0; have p1' := (f2.cb hl1 (fun h => h)).trans p1; have p2' := (f2.cb hl1 (fun h => h)).trans p2))
    refine (number_calls ⟨d2, area2, idx2⟩ w2 (H.out.keep (f1.trans f2))).mono ?_; rintro e w3 ⟨rfl, f3⟩
    rw [← HM.out]
    have hl1' := Nat.lt_of_lt_of_le hl1 f2.size
    have r0 := (f3.cb hl1' (fun h => h)).trans p0'
    have r1 := (f3.cb hl1' (fun h => h)).trans p1'
    have r2 := (f3.cb hl1' (fun h => h)).trans p2'
    have t0 := (f3.cb hl2 (fun h => h)).trans q0
    clear p0 p1 p2 p0' p1' p2' q0 q1 q2
    go_wp2_with (first
      | (refine im_alloc1 rfl 3 rfl (zero3 _) rfl ?_; intro w4 b4 f4 z4; have B4 := Lib.hid b4; clear b4; have Z4 := Lib.hid z4; clear z4)
      | (refine im_store1 rfl 3 _ _ rfl (v := .int .i64 m) rfl rfl rfl (by kernel_rfl) B4.out (by simp) ?_; intro w5 b5 f5 z5; have u0 : w5.cell? ⟨w3.heap.size, 0, none⟩ = some (.int .i64 m) := cell_of_blk b5; clear b5; have Z5 := Lib.hid z5; clear z5; have hls := f3.size; have g5 : Fr (fun q => q = w3.heap.size) w3 w5 := f4.no.trans f5; have r05 := (g5.cb (b := w.heap.size) (by omega) (by omega)).trans r0; have r15 := (g5.cb (b := w.heap.size) (by omega) (by omega)).trans r1; have r25 := (g5.cb (b := w.heap.size) (by omega) (by omega)).trans r2; have t05 := (g5.cb (b := w1.heap.size) (by omega) (by omega)).trans t0))
    have hw3 := f3.size
    have hz1 := Z1.out
    have hw2 := f2.size
    have ff : Fr (fun _ => False) w w5 := ((f1.trans f2).trans f3).trans' g5 (fun _ _ h => h) (fun i hi h => by omega)
    refine (HCL.out w5 w3.heap.size ff u0).mono ?_; rintro e w6 ⟨rfl, s6, f6⟩
    have S6 := Lib.hid s6; clear s6
    go_wp2_with fail
    go_ret
    exact ⟨rfl, S6.out, f6⟩
end
end Go.Proofs.Ytmbkmfpnjpkakaa

namespace Go.Proofs.Ytmbkmfpnjpkakaa
open Go.RowKit Go.Im Go.Dsk0

theorem pairwise_set {α : Type} {R : α → α → Prop} (hs : ∀ {a b}, R a b → R b a) : ∀ {l : List α} {k : Nat} {a : α}, l.Pairwise R → (∀ j x, j ≠ k → l[j]? = some x → R a x) → (l.set k a).Pairwise R
  | [], _, _, _, _ => by simp
  | x :: l, 0, a, h, ha => by
    obtain ⟨h1, h2⟩ := List.pairwise_cons.1 h
    refine List.pairwise_cons.2 ⟨fun y hy => ?_, h2⟩
    obtain ⟨j, hj⟩ := List.mem_iff_getElem?.1 hy
    exact ha (j + 1) y (by omega) (by simpa using hj)
  | x :: l, k + 1, a, h, ha => by
    obtain ⟨h1, h2⟩ := List.pairwise_cons.1 h
    refine List.pairwise_cons.2 ⟨fun y hy => ?_, pairwise_set hs h2 fun j y hj hy => ha (j + 1) y (by omega) (by simpa using hy)⟩
    rcases List.mem_or_eq_of_mem_set hy with hy | rfl
    · exact h1 y hy
    · exact hs (ha 0 x (by omega) rfl)

/-- A row of bays, one of them replaced. -/
theorem bays_set {w w' : World} {bs : List (Loc × Shf0.Bay)} {vb cap k : Nat} {cur : Array Value} {L : Loc} {b : Shf0.Bay} (hr : w.ownsRow 0 106 2 (.slice (some ⟨vb, 0, none⟩) bs.length cap) bs.length (bs.flatMap bayC)) (hb : w.heap[vb]? = some (.cells cur 106 (0, 0)))
    (hb' : w'.heap[vb]? = some (.cells ((cur.setIfInBounds (k * 2) L.ptr).setIfInBounds (k * 2 + 1) (.int .i64 b.st)) 106 (0, 0))) : w'.ownsRow 0 106 2 (.slice (some ⟨vb, 0, none⟩) bs.length cap) bs.length ((bs.set k (L, b)).flatMap bayC) := by
  obtain ⟨h1, h2 | ⟨g, cap', cur', h2, h3, h4, h5, h6, h7, h8⟩⟩ := hr
  · exact absurd h2.1 (by intro h; injection h with h; cases h)
  · injection h2 with e1 e2 e3
    injection e1 with e1
    injection e1 with e1
    subst e1
    subst e3
    rw [hb] at h4
    injection h4 with h4
    injection h4 with h4
    subst h4
    refine ⟨by rw [bayC_len]; simp, .inr ⟨vb, cap, _, rfl, h3, hb', h5, h6, by simpa using h7, ?_⟩⟩
    apply List.ext_getElem?
    intro q
    obtain ⟨i, u, hu, rfl⟩ : ∃ i u, u < 2 ∧ q = i * 2 + u := ⟨q / 2, q % 2, by omega, by omega⟩
    rw [bayC_get _ _ _ hu]
    by_cases hi : i < bs.length
    · rw [List.getElem?_take_of_lt (by omega)]
      have hold : ∀ v, v < 2 → cur[i * 2 + v]? = (bs[i]?).bind fun d => (bayC d)[v]? := fun v hv => by
        have : (cur.toList.take (bs.length * 2))[i * 2 + v]? = (bs[i]?).bind fun d => (bayC d)[v]? := by rw [h8, bayC_get _ _ _ hv]
        rw [List.getElem?_take_of_lt (by omega)] at this
        simpa using this
      have hcz : bs.length * 2 ≤ cur.size := by omega
      simp only [Array.getElem?_toList]
      by_cases hik : k = i
      · subst hik
        rw [List.getElem?_set_self hi]
        have : u = 0 ∨ u = 1 := by omega
        rcases this with rfl | rfl
        · rw [Array.getElem?_setIfInBounds_ne (by omega), Nat.add_zero, Array.getElem?_setIfInBounds_self_of_lt (by omega)]; rfl
        · rw [Array.getElem?_setIfInBounds_self_of_lt (by simp; omega)]; rfl
      · rw [List.getElem?_set_ne hik, Array.getElem?_setIfInBounds_ne (by omega), Array.getElem?_setIfInBounds_ne (by omega)]
        exact hold u hu
    · rw [List.getElem?_eq_none (by simp; omega), List.getElem?_eq_none (by simp; omega)]; rfl

section
variable {w w' : World} {O O' : Nat → Prop} {s : Nat} {S : Shf0.Shelf} {bs : List (Loc × Shf0.Bay)} {im : List (Loc × Dsk)} {bv iv : Value}

theorem ShelfIn.setBay (h : ShelfIn w O s S bs im bv iv) {k : Nat} (hk : k < bs.length) {vb cap : Nat} {cur : Array Value} (hbv : bv = .slice (some ⟨vb, 0, none⟩) bs.length cap) (hvb : w.heap[vb]? = some (.cells cur 106 (0, 0)))
    {L : Loc} {b : Shf0.Bay} (f : Fr (fun q => q = vb) w w') (hb' : w'.heap[vb]? = some (.cells ((cur.setIfInBounds (k * 2) L.ptr).setIfInBounds (k * 2 + 1) (.int .i64 b.st)) 106 (0, 0)))
    (hd : DK w L b.D) (hap : ∀ j x, j ≠ k → bs[j]? = some x → Apart L x.1) (hapi : ∀ x ∈ im, Apart L x.1) (hO : ∀ q, O q → O' q) (hL : ∀ q, L.has q → O' q) (hl : ∀ q, O' q → q < w.heap.size) (hok : Shf0.Ok { S with bays := S.bays.set k b }) :
    ShelfIn w' O' s { S with bays := S.bays.set k b } (bs.set k (L, b)) im bv iv := by
  have hne : ∀ L D, DK w L D → DK w' L D := fun L D hk => hk.fr f fun q hq e => by
    subst e; exact hk.not hvb (by decide) (by decide) hq
  have hsv : ¬ s = vb := fun e => by subst e; exact absurd (cells_type h.head hvb) (by decide)
  have hmapL : (bs.set k (L, b)).map (·.1) ++ im.map (·.1) = (bs.map (·.1) ++ im.map (·.1)).set k L := by
    rw [List.map_set, List.set_append_left _ _ (by simpa using hk)]
  refine ⟨hok, ?_, h.ei, (f.block s (lt_of_blk h.head) hsv).trans h.head, ?_, own_row h.ri f (fun b cs hb e => by subst e; exact absurd (cells_type hb hvb) (by decide)), fun x hx => ?_, fun x hx => hne _ _ (h.ki x hx), ?_, hO _ h.os, fun q hq => hO _ (h.ob q hq), fun q hq => hO _ (h.oi q hq), fun M hM q hq => ?_, fun q hq => Nat.lt_of_lt_of_le (hl q hq) f.size⟩
  · show S.bays.set k b = _
    rw [h.eb, List.map_set]
  · rw [List.length_set]
    have := h.rb
    subst hbv
    exact bays_set this hvb hb'
  · rcases List.mem_or_eq_of_mem_set hx with hx | rfl
    · exact hne _ _ (h.kb x hx)
    · exact hne _ _ hd
  · rw [hmapL]
    refine pairwise_set Apart.symm h.apart fun j x hj hx => ?_
    by_cases hjl : j < bs.length
    · rw [List.getElem?_append_left (by simpa using hjl), List.getElem?_map] at hx
      cases hy : bs[j]? with
      | none => simp [hy] at hx
      | some y => rw [hy] at hx; simp at hx; subst hx; exact hap j y hj hy
    · rw [List.getElem?_append_right (by simp; omega), List.getElem?_map] at hx
      cases hy : im[j - (bs.map (·.1)).length]? with
      | none => rw [hy] at hx; simp at hx
      | some y => rw [hy] at hx; simp at hx; subst hx; exact hapi y (List.mem_of_getElem? hy)
  · rw [hmapL] at hM
    rcases List.mem_or_eq_of_mem_set hM with hM | rfl
    · exact hO _ (h.od M hM q hq)
    · exact hL q hq

theorem want_calls (h : ShelfAt w O s S) (d : Int) (inn : Bool) (er : Int) : Calls Try.prog 96 #[.pointer (some ⟨s, 0, none⟩), .int .i64 d, .bool inn, .int .i64 er] w fun e w' => e = .returned (.int .i64 (Shf0.want S d inn er)) ∧ w = w' := by
  have H := Lib.hid h; clear h
  obtain ⟨st, hst⟩ : ∃ st, st = Shf0.state S d := ⟨_, rfl⟩
  have hR : Shf0.want S d inn er = if st = 0 then 1 else if decide (st = 1) ≠ inn then er else 0 := by rw [hst]; rfl
  rw [hR]
  clear hR
  by_cases h0 : st = 0
  · have hb : (st == 0) = true := by simp [h0]
    rw [if_pos h0]
    have HST := Lib.hid hst; clear hst h0
    go_enter Try.func96, Try.ntmps96
    go_wp2_with fail
    refine (state_calls H.out d).mono ?_; rintro e w1 ⟨rfl, rfl⟩
    rw [← HST.out]
    go_wp2_with fail
    go_ret
    exact ⟨rfl, rfl⟩
  · have hb : (st == 0) = false := by simp [h0]
    rw [if_neg h0]
    by_cases h1 : st = 1
    · have hb1 : (st == 1) = true := by simp [h1]
      rw [decide_eq_true h1]
      have HST := Lib.hid hst; clear hst h0 h1
      cases inn
      · go_enter Try.func96, Try.ntmps96
        go_wp2_with fail
        refine (state_calls H.out d).mono ?_; rintro e w1 ⟨rfl, rfl⟩
        rw [← HST.out]
        go_wp2_with fail
        go_ret
        exact ⟨rfl, rfl⟩
      · go_enter Try.func96, Try.ntmps96
        go_wp2_with fail
        refine (state_calls H.out d).mono ?_; rintro e w1 ⟨rfl, rfl⟩
        rw [← HST.out]
        go_wp2_with fail
        go_ret
        exact ⟨rfl, rfl⟩
    · have hb1 : (st == 1) = false := by simp [h1]
      rw [decide_eq_false h1]
      have HST := Lib.hid hst; clear hst h0 h1
      cases inn
      · go_enter Try.func96, Try.ntmps96
        go_wp2_with fail
        refine (state_calls H.out d).mono ?_; rintro e w1 ⟨rfl, rfl⟩
        rw [← HST.out]
        go_wp2_with fail
        go_ret
        exact ⟨rfl, rfl⟩
      · go_enter Try.func96, Try.ntmps96
        go_wp2_with fail
        refine (state_calls H.out d).mono ?_; rintro e w1 ⟨rfl, rfl⟩
        rw [← HST.out]
        go_wp2_with fail
        go_ret
        exact ⟨rfl, rfl⟩
end
end Go.Proofs.Ytmbkmfpnjpkakaa

namespace Go.Shf0
open Go.Dsk0
theorem Ok.setBay {S : Shelf} (h : Ok S) {k : Nat} {b : Bay} (h1 : Dsk0.Ok b.D) (h2 : b.st ≠ 2 → (b.D.length : Int) = sectors S.cfg) (h3 : b.st = 1 ∨ b.st = 2 ∨ b.st = 3) : Ok { S with bays := S.bays.set k b } := by
  have hm : ∀ y ∈ S.bays.set k b, y ∈ S.bays ∨ y = b := fun y hy => List.mem_or_eq_of_mem_set hy
  refine ⟨h.cfg, h.sec, by simpa using h.num, fun y hy => ?_, fun y hy hs => ?_, fun y hy => ?_, h.img⟩
  · rcases hm y hy with hy | rfl
    · exact h.bay y hy
    · exact h1
  · rcases hm y hy with hy | rfl
    · exact h.len y hy hs
    · exact h2 hs
  · rcases hm y hy with hy | rfl
    · exact h.st y hy
    · exact h3
theorem want_zero {S : Shelf} {d : Int} {inn : Bool} {er : Int} (he : er ≠ 0) (h : want S d inn er = 0) : 0 ≤ d ∧ d < S.bays.length ∧ (decide (state S d = 1) = inn) := by
  unfold want at h
  split at h
  · simp at h
  · rename_i h0
    split at h
    · exact absurd h he
    · rename_i h1
      obtain ⟨a, b⟩ := state_ne h0
      exact ⟨a, b, Classical.not_not.1 h1⟩
theorem modify_set {α : Type} {l : List α} {k : Nat} {x : α} (h : l[k]? = some x) (f : α → α) : l.modify k f = l.set k (f x) := by
  apply List.ext_getElem?; intro i
  rw [List.getElem?_modify, List.getElem?_set]
  by_cases hik : k = i
  · subst hik
    obtain ⟨h1, h2⟩ := List.getElem?_eq_some_iff.1 h
    simp [h1, h2]
  · cases l[i]? <;> simp [hik]
/-- One bay further. -/
theorem cutBays_in {l : List Bay} {k : Nat} {b : Bay} (h : l[k]? = some b) (hs : b.st = 1) (ps : List Int) (b' : Bay) (hb' : b' = { b with D := cut b.D (ps.take (pend b.D).length) }) : l.take k ++ cutBays (l.drop k) ps = (l.set k b').take (k + 1) ++ cutBays ((l.set k b').drop (k + 1)) (ps.drop (pend b.D).length) := by
  obtain ⟨h1, h2⟩ := List.getElem?_eq_some_iff.1 h
  rw [List.drop_eq_getElem_cons h1, h2, cutBays, if_pos hs, List.take_add_one, List.take_set_of_le (Nat.le_refl _), List.getElem?_set_self h1, List.drop_set_of_lt (by omega), hb']
  simp
theorem cutBays_out {l : List Bay} {k : Nat} {b : Bay} (h : l[k]? = some b) (hs : b.st ≠ 1) (ps : List Int) : l.take k ++ cutBays (l.drop k) ps = l.take (k + 1) ++ cutBays (l.drop (k + 1)) ps := by
  obtain ⟨h1, h2⟩ := List.getElem?_eq_some_iff.1 h
  rw [List.drop_eq_getElem_cons h1, h2, cutBays, if_neg hs, List.take_add_one, h]
  simp
end Go.Shf0
namespace Go.Proofs.Ytmbkmfpnjpkakaa
open Go.RowKit Go.Im Go.Dsk0
section
variable {w : World} {O : Nat → Prop} {s : Nat} {S : Shf0.Shelf}

/-- A bay that is there. -/
theorem ShelfIn.at {bs : List (Loc × Shf0.Bay)} {im : List (Loc × Dsk)} {bv iv : Value} (h : ShelfIn w O s S bs im bv iv) {k : Nat} (hk : k < S.bays.length) : ∃ L b, bs[k]? = some (L, b) ∧ S.bays[k]? = some b ∧ k < bs.length := by
  have hl := h.pos.2.2
  obtain ⟨⟨L, b⟩, hx⟩ : ∃ x, bs[k]? = some x := ⟨_, List.getElem?_eq_getElem (by omega)⟩
  exact ⟨L, b, hx, by rw [h.eb, List.getElem?_map, hx]; rfl, by omega⟩
theorem ShelfIn.apartB {bs : List (Loc × Shf0.Bay)} {im : List (Loc × Dsk)} {bv iv : Value} (h : ShelfIn w O s S bs im bv iv) {k : Nat} {L : Loc} {b : Shf0.Bay} (hx : bs[k]? = some (L, b)) : (∀ j x, j ≠ k → bs[j]? = some x → Apart L x.1) ∧ (∀ x ∈ im, Apart L x.1) := by
  have h1 : (bs.map (·.1) ++ im.map (·.1))[k]? = some L := by
    rw [List.getElem?_append_left (by simp; exact (List.getElem?_eq_some_iff.1 hx).1), List.getElem?_map, hx]; rfl
  refine ⟨fun j x hj hy => ?_, fun x hy => ?_⟩
  · have h2 : (bs.map (·.1) ++ im.map (·.1))[j]? = some x.1 := by
      rw [List.getElem?_append_left (by simp; exact (List.getElem?_eq_some_iff.1 hy).1), List.getElem?_map, hy]; rfl
    exact pair_mem Apart.symm h.apart h1 h2 (fun e => hj e.symm)
  · obtain ⟨j, hj⟩ := List.mem_iff_getElem?.1 hy
    have h2 : (bs.map (·.1) ++ im.map (·.1))[bs.length + j]? = some x.1 := by
      rw [List.getElem?_append_right (by simp), List.getElem?_map]; simp [hj]
    exact pair_mem Apart.symm h.apart h1 h2 (by have := (List.getElem?_eq_some_iff.1 hx).1; omega)

set_option maxRecDepth 100000 in
theorem kill_calls (h : ShelfAt w O s S) (d : Int) : Calls Try.prog 112 #[.pointer (some ⟨s, 0, none⟩), .int .i64 d] w fun e w' => e = .returned (.int .i64 (Shf0.kill S d).1) ∧ ShelfAt w' O s (Shf0.kill S d).2 ∧ Fr O w w' := by
  have H := Lib.hid h
  obtain ⟨R, hR⟩ : ∃ R, R = Shf0.kill S d := ⟨_, rfl⟩
  obtain ⟨wt, hwt⟩ : ∃ wt, wt = Shf0.want S d true 15 := ⟨_, rfl⟩
  have hR' : R = if wt = 0 then (0, Shf0.turnS S d.toNat 3) else (wt, S) := by rw [hR, hwt]; rfl
  rw [← hR]
  clear hR
  by_cases h0 : wt = 0
  · rw [if_pos h0] at hR'
    obtain ⟨d0, d1, hst⟩ := Shf0.want_zero (er := 15) (by decide) (hwt.symm.trans h0)
    obtain ⟨k, rfl⟩ : ∃ k : Nat, d = k := ⟨d.toNat, by omega⟩
    rw [Int.toNat_natCast] at hR'
    obtain ⟨bs, im, bv, iv, hin⟩ := h
    obtain ⟨L, b, hx, hsb, hk⟩ := hin.at (k := k) (by omega)
    obtain ⟨vb, cap, cur, hbv, hvb, hcz, hOv, hcell⟩ := hin.open_
    obtain ⟨c0, c1⟩ := hcell k _ hx
    have hb1 : b.st = 1 := by
      have := state_at hin hx
      simp only at this
      rw [this] at hst
      simpa using hst
    have hS' : Shf0.turnS S k 3 = { S with bays := S.bays.set k { b with st := 3 } } := by unfold Shf0.turnS; rw [Shf0.modify_set hsb]
    rw [hS'] at hR'
    subst hR'
    have hcur : (cur.setIfInBounds (k * 2) L.ptr) = cur := by
      apply Array.ext_getElem?; intro q
      by_cases hq : k * 2 = q
      · subst hq
        rw [Array.getElem?_setIfInBounds_self_of_lt (by omega)]
        exact ((cell_of_blk hvb).symm.trans c0).symm
      · rw [Array.getElem?_setIfInBounds_ne hq]
    have c6 : w.cell? ⟨s, 6, none⟩ = some (.slice (some ⟨vb, 0, none⟩) bs.length cap) := by rw [← hbv]; exact cell_of_blk hin.head
    have HB := Lib.hid hvb
    have hok := hin.ok.setBay (k := k) (b := { b with st := 3 }) (hin.ok.bay b (List.mem_of_getElem? hsb)) (fun _ => hin.ok.len b (List.mem_of_getElem? hsb) (by omega)) (.inr (.inr rfl))
    have HOK := Lib.hid hok
    have HIN := Lib.hid hin
    have HX := Lib.hid hx
    have HBV := Lib.hid hbv
    have HCUR := Lib.hid hcur
    have HWT := Lib.hid hwt
    have hbw : (wt == 0) = true := by simp [h0]
    have k0 : (0 : Int) ≤ k := by omega
    have k1 : (k : Int) < bs.length := by omega
    have hkc : k * 2 + 1 < cur.size := by omega
    have H0 := Lib.hid h0
    clear hcell hin hx hvb hbv hwt hcur hok c0 c1 hst hb1 hsb h0 d1 hS'
    go_enter Try.func112, Try.ntmps112
    go_wp2_with fail
    refine (want_calls H.out (k : Int) true 15).mono ?_; rintro e w1 ⟨rfl, rfl⟩
    rw [← HWT.out]
    go_wp2_with (first
      | (refine im_store1 rfl 3 _ _ rfl (b := vb) (j := k * 2 + 1) (v := .int .i64 3) rfl rfl rfl (by kernel_rfl) HB.out hkc ?_; intro w2 b2 f2 z2; have B2 := Lib.hid b2; clear b2; clear z2))
    go_ret
    have hap := HIN.out.apartB HX.out
    refine ⟨by rw [H0.out]; rfl, ⟨_, _, _, _, HIN.out.setBay (L := L) (b := { b with st := 3 }) hk HBV.out HB.out f2 (by rw [HCUR.out]; exact B2.out) (HIN.out.kb _ (List.mem_of_getElem? HX.out)) hap.1 hap.2 (fun _ h => h) (foot_in HIN.out HX.out) HIN.out.olt HOK.out⟩, f2.mono fun q _ hq => by rw [hq]; exact hOv⟩
  · rw [if_neg h0] at hR'
    subst hR'
    have HWT := Lib.hid hwt
    have hbw : (wt == 0) = false := by simp [h0]
    clear hwt h0 h
    go_enter Try.func112, Try.ntmps112
    go_wp2_with fail
    refine (want_calls H.out d true 15).mono ?_; rintro e w1 ⟨rfl, rfl⟩
    rw [← HWT.out]
    go_wp2_with fail
    go_ret
    exact ⟨rfl, H.out, Fr.refl _ _⟩

/-- A list of picks cut in two. -/
theorem ints_cut {w : World} {a : Option Addr} {c : Nat} {ps : List Int} {ok : Nat → Prop} (h : IntsAt w (.slice a ps.length c) ps ok) (n : Nat) (hn : n ≤ ps.length) (hc : ps.length ≤ c) :
    (∃ c', (∀ W, (Instr.slice 46 (.slice a ps.length c) none (some (.int .i64 (n : Int))) none).run Try.prog W = .ok (.slice a n c') W) ∧ IntsAt w (.slice a n c') (ps.take n) ok) ∧
    (∃ a' c', (∀ W, (Instr.slice 46 (.slice a ps.length c) (some (.int .i64 (n : Int))) none none).run Try.prog W = .ok (.slice a' (ps.length - n) c') W) ∧ IntsAt w (.slice a' (ps.length - n) c') (ps.drop n) ok ∧ ps.length - n ≤ c') := by
  obtain ⟨a1, c1, h1, h2, h3⟩ := h
  injection h1 with e1 _ e2
  subst e1
  subst e2
  constructor
  · refine ⟨c, fun W => ?_, a, c, by rw [List.length_take, Nat.min_eq_left hn], by rw [List.length_take]; omega, ?_⟩
    · rw [run_slice_h (P := Try.prog) W 46 a ps.length c (by kernel_rfl) .i64 (n : Int) (by omega) (by omega)]
      rw [show (sizeOf (Try.prog.elem 46)).run Try.prog W = .ok 1 W by kernel_rfl]
      simp only [Result.andThen_ok, sliced, Int.toNat_natCast, Nat.zero_mul, Nat.sub_zero]
      congr 2
      split
      · rfl
      · cases a with
        | none => rfl
        | some a => simp [Addr.add]
    · rcases h3 with h3 | ⟨b, o, h4, h5, h6, h7⟩
      · exact .inl (by rw [h3]; simp)
      · refine .inr ⟨b, o, h4, h5, h6, fun j x hx => h7 j x ?_⟩
        rw [List.getElem?_take] at hx
        split at hx
        · exact hx
        · cases hx
  · have hrun : ∀ W, (Instr.slice 46 (.slice a ps.length c) (some (.int .i64 (n : Int))) none none).run Try.prog W = .ok (.slice (if c = n then a else a.map (·.add n)) (ps.length - n) (c - n)) W := fun W => by
      rw [run_slice_l (P := Try.prog) W 46 a ps.length c (by kernel_rfl) .i64 (n : Int) (by omega) (by omega)]
      rw [show (sizeOf (Try.prog.elem 46)).run Try.prog W = .ok 1 W by kernel_rfl]
      simp only [Result.andThen_ok, sliced, Int.toNat_natCast, Nat.mul_one]
    refine ⟨_, _, hrun, ⟨_, _, by rw [List.length_drop], by rw [List.length_drop]; omega, ?_⟩, by omega⟩
    by_cases hd : ps.drop n = []
    · exact .inl hd
    · have hlt : n < ps.length := Nat.not_le.1 fun h => hd (List.drop_of_length_le h)
      rcases h3 with h3 | ⟨b, o, h4, h5, h6, h7⟩
      · rw [h3] at hlt; simp at hlt
      · refine .inr ⟨b, o + n, ?_, h5, h6, fun j x hx => ?_⟩
        · rw [if_neg (by omega), h4]
          simp only [Option.map_some, Addr.add]
          split
          · rename_i h; subst h; rfl
          · rfl
        · rw [List.getElem?_drop] at hx
          rw [Nat.add_assoc]
          exact h7 _ x hx
end
end Go.Proofs.Ytmbkmfpnjpkakaa

namespace Go.Proofs.Ytmbkmfpnjpkakaa
open Go.RowKit Go.Im Go.Dsk0

theorem cut_len (D : Dsk) (ps : List Int) : (Dsk0.cut D ps).length = D.length := by simp [Dsk0.cut, unarm, settle_length]

section
variable {w : World} {O : Nat → Prop} {s : Nat} {S : Shf0.Shelf}

set_option maxRecDepth 100000 in
set_option maxHeartbeats 2000000 in
theorem mount_calls (h : ShelfAt w O s S) (pa : Option Addr) (pc : Nat) (ps : List Int) (hp : IntsAt w (.slice pa ps.length pc) ps (fun b => ¬ O b)) (hpc : ps.length ≤ pc) :
    Calls Try.prog 47 #[.pointer (some ⟨s, 0, none⟩), .slice pa ps.length pc] w fun e w' => e = .returned (.tuple #[]) ∧ ShelfAt w' O s (Shf0.mount S ps) ∧ Fr O w w' := by
  obtain ⟨bs, im, bv, iv, hin⟩ := h
  obtain ⟨hp1, hp2, hp3⟩ := hin.pos
  obtain ⟨vb, cap, cur, rfl, hvb, hcz, hOv, hcell⟩ := hin.open_
  have c6 : w.cell? ⟨s, 6, none⟩ = some (.slice (some ⟨vb, 0, none⟩) bs.length cap) := cell_of_blk hin.head
  have HIN := Lib.hid hin
  have HP := Lib.hid hp; clear hp
  have HSB := Lib.hid (show S.bays.length = bs.length from hp3.symm)
  obtain ⟨nb, hnb⟩ : ∃ nb, nb = bs.length := ⟨_, rfl⟩
  rw [← hnb] at c6 hp1 hp2 HSB
  have HIN' := Lib.hid (show ∃ bs im iv, bs.length = nb ∧ ShelfIn w O s S bs im (.slice (some ⟨vb, 0, none⟩) nb cap) iv from ⟨bs, im, iv, hnb.symm, by rw [hnb]; exact hin⟩)
  clear hcell hin hvb hcz hp3 HIN hnb
  go_enter Try.func47, Try.ntmps47
  go_wp2_with fail
  go_loopg [1, 12] nb (fun m t1 t wr => ∃ (k : Nat) (T : Shf0.Shelf) (qs : List Int) (qa : Option Addr) (qc : Nat), m + k = nb ∧ t = .int .i64 k ∧ t1 = .slice qa qs.length qc ∧ qs.length ≤ qc ∧ IntsAt wr (.slice qa qs.length qc) qs (fun b => ¬ O b) ∧ (∃ bs im iv, bs.length = nb ∧ ShelfIn wr O s T bs im (.slice (some ⟨vb, 0, none⟩) nb cap) iv) ∧ T = { S with bays := T.bays } ∧ Shf0.cutBays S.bays ps = T.bays.take k ++ Shf0.cutBays (T.bays.drop k) qs ∧ Fr O w wr)
  case atStart => exact ⟨0, S, ps, pa, pc, rfl, rfl, rfl, hpc, HP.out, HIN'.out, rfl, by simp, Fr.refl _ _⟩
  case round =>
    obtain ⟨k, T, qs, qa, qc, hm, rfl, rfl, hqc, hq, hT, hTe, hcut, hfr⟩ := hrel
    have HM := Lib.hid hm; clear hm
    have HQ := Lib.hid hq; clear hq
    have HTE := Lib.hid hTe; clear hTe
    have HCUT := Lib.hid hcut; clear hcut
    obtain ⟨bs', im', iv', hbl, hin⟩ := hT
    have HIN := Lib.hid hin
    have HBL := Lib.hid hbl
    have hrs := hfr.size
    have hTl : T.bays.length = nb := by rw [hin.eb]; simp [hbl]
    have HTL := Lib.hid hTl
    by_cases hk : k < nb
    · obtain ⟨L, b, hx, hsb, hkb⟩ := hin.at (k := k) (by omega)
      obtain ⟨vb2, cap2, cur2, hbv2, hvb2, hcz2, hOv2, hcell⟩ := hin.open_
      have hve : vb2 = vb := by
        injection hbv2 with e1
        injection e1 with e1
        injection e1 with e1
        exact e1.symm
      subst hve
      clear hbv2
      obtain ⟨q0, q1⟩ := hcell k _ hx
      simp only at q0 q1
      obtain ⟨st, hst⟩ : ∃ st, st = b.st := ⟨_, rfl⟩
      rw [← hst] at q1
      have k0 : (0 : Int) ≤ k := by omega
      have k1 : (k : Int) < nb := by omega
      have HX := Lib.hid hx
      have HSBK := Lib.hid hsb
      have HST := Lib.hid hst
      have hDK := Lib.hid (hin.kb _ (List.mem_of_getElem? hx))
      have hvlt := lt_of_blk hvb2
      have hDl : b.D.length ≤ 65536 := (hin.ok.bay b (List.mem_of_getElem? hsb)).len
      clear hcell hx hsb hst hvb2 hcz2 hin hbl hTl hkb
      by_cases h1 : st = 1
      · have hb1 : (st == 1) = true := by simp [h1]
        have H1 := Lib.hid (HST.out.symm.trans h1)
        clear h1
        obtain ⟨P, hP⟩ : ∃ P, P = (pend b.D).length := ⟨_, rfl⟩
        have HPE := Lib.hid hP
        obtain ⟨n, hn⟩ : ∃ n, n = min P qs.length := ⟨_, rfl⟩
        have hnq : n ≤ qs.length := by omega
        have hmin : min (P : Int) (qs.length : Int) = (n : Int) := by omega
        clear hP hn
        have hpl : P ≤ 65536 := by
          rw [HPE.out]; unfold pend
          exact Nat.le_trans (List.length_filter_le _ _) (by simpa using hDl)
        have htk : qs.take n = qs.take P := by
          by_cases hle : P ≤ qs.length
          · rw [show n = P by omega]
          · rw [List.take_of_length_le (by omega), List.take_of_length_le (by omega)]
        have hdp : qs.drop n = qs.drop P := by
          by_cases hle : P ≤ qs.length
          · rw [show n = P by omega]
          · rw [List.drop_of_length_le (by omega), List.drop_of_length_le (by omega)]
        have HTK := Lib.hid htk
        have HDP := Lib.hid hdp
        clear htk hdp
        unfold Loc.ptr at q0
        go_wp2_with (first
          | (refine im_alloc_row rfl 106 rfl (zero106 _) ?_; intro w3 b3 f3 z3; have B3 := Lib.hid b3; clear b3; have Z3 := Lib.hid z3; clear z3)
          | (refine im_store_row rfl 106 _ _ rfl (vs := #[.pointer (some ⟨L.g, 0, none⟩), .int .i64 st]) rfl rfl B3.out rfl info106 (bay_one _ rfl _) ?_; intro w4 b4 f4 z4; have p0 : w4.cell? ⟨wr.heap.size, 0, none⟩ = some (.pointer (some ⟨L.g, 0, none⟩)) := cell_of_blk b4; have p1 : w4.cell? ⟨wr.heap.size, 1, none⟩ = some (.int .i64 st) := cell_of_blk b4; have hl4 := lt_of_blk b4; clear b4; have Z4 := Lib.hid z4; clear z4))
        have hz3 := Z3.out
        have hz4 := Z4.out
        have ff : Fr (fun q => q = wr.heap.size) wr w4 := f3.no.trans f4
        have hno : ∀ q, O q → ¬ q = wr.heap.size := fun q hq e => by have := HIN.out.olt q hq; omega
        have hDK4 := Lib.hid (hDK.out.fr ff (fun q hq => hno q (foot_in HIN.out HX.out q hq)))
        refine (pending_calls L.g L.bd L.bc L.ba b.D w4 hDK4.out.disk).mono ?_; rintro e w5 ⟨v, rfl, hrow, f5⟩
        have hv : ∃ va vc, v = .slice va P vc := by
          have hll : (pendI b.D).length = P := by rw [HPE.out]; simp [pendI]
          obtain ⟨-, h2 | ⟨gb, vc, cur, h2, -⟩⟩ := hrow
          · exact ⟨none, 0, by rw [h2.1]; congr 1; omega⟩
          · exact ⟨_, vc, by rw [h2, hll]⟩
        obtain ⟨va, vc, rfl⟩ := hv
        clear hrow
        have p05 := (f5.cb hl4 (fun h => h)).trans p0
        have ff5 : Fr (fun q => q = wr.heap.size) wr w5 := ff.trans f5.no
        have hIN5 := Lib.hid (HIN.out.fr ff5 hno)
        have hQ5 := Lib.hid (HQ.out.fr ff5 (fun b hb _ e => by omega))
        have hDK5 := Lib.hid (hDK4.out.keep f5)
        have hl5 := Nat.lt_of_lt_of_le hl4 f5.size
        have FF5 := Lib.hid ff5
        clear p0 p1 q0 q1 f3 f4 f5 ff ff5
        go_wp2_with fail
        obtain ⟨⟨c1, hs1, hi1⟩, ⟨a2, c2, hs2, hi2, hc2⟩⟩ := ints_cut hQ5.out n hnq hqc
        have hI1 := Lib.hid hi1; clear hi1
        have hI2 := Lib.hid hi2; clear hi2
        refine wp_region_seq (fun W => W.cell? ⟨wr.heap.size, 0, none⟩ = some (.pointer (some ⟨L.g, 0, none⟩))) [0, 1, 2, 3, 4, 5] [5] (by kernel_rfl) (by kernel_rfl) (by kernel_rfl) p05 ?_
        simp only [pickOps, List.filterMap_cons, List.filterMap_nil, List.getElem?_toArray, List.getElem?_cons_zero, List.getElem?_cons_succ, Option.map_some]
        repeat (refine seqH_read (v := ?_) (by rfl) (by rfl) ?_ ?_; rotate_left; (focus (intro W hS; (try dsimp only at hS); go_simp; try with_reducible rfl)); simp only [Act.put, List.setIfInBounds_toArray, List.set_cons_zero, List.set_cons_succ])
        refine seqH_eff (by rfl) (by rfl) fun K hK => ?_
        have hft := foot_in HIN.out HX.out
        refine wp_callC 33 #[.pointer (some ⟨L.g, 0, none⟩), .slice qa n c1] (by go_simp) (R := fun v w' => v = .tuple #[] ∧ DiskAt w' L.g L.bd L.bc L.ba (Dsk0.cut b.D (qs.take n)) ∧ Fr L.foot w5 w')
          ((cut_calls L.g L.bd L.bc L.ba b.D w5.drew (hDK5.out.keep (Fr.refl _ w5).drew).disk _ (qs.take n) ((hI1.out.fr ((Fr.refl (fun _ => False) w5).drew) (fun _ _ _ h => h)).imp (fun b _ hn hq => hn (hft b (.inr hq))))).mono (by rintro e w' ⟨rfl, hd, hf⟩; exact ⟨_, rfl, rfl, hd, hf.undrew⟩)) ?_
        rintro v w6 ⟨rfl, d6, f6⟩
        have D6 := Lib.hid d6; clear d6
        have hnf : ¬ L.foot wr.heap.size := fun h => by
          have := HIN.out.olt _ (hft _ (.inr h))
          omega
        refine hK.out _ _ ((f6.cb hl5 hnf).trans p05) ?_
        refine seqH_nil ?_
        have hbay : T.bays.modify k (fun x => { x with D := Dsk0.cut x.D (qs.take n) }) = T.bays.set k { b with D := Dsk0.cut b.D (qs.take P) } := by rw [Shf0.modify_set HSBK.out, HTK.out]
        have hfin : ∃ bs im iv, bs.length = nb ∧ ShelfIn w6 O s (Shf0.turnD T k fun D => Dsk0.cut D (qs.take n)) bs im (.slice (some ⟨vb2, 0, none⟩) nb cap) iv :=
          ⟨_, _, _, by rw [List.length_modify]; exact HBL.out, hIN5.out.turn (F := fun D => Dsk0.cut D (qs.take n)) HX.out f6 (hDK5.out.turn D6.out (cut_len _ _) f6.size) (cut_len _ _)⟩
        have HFIN := Lib.hid hfin
        have hTe' : Shf0.turnD T k (fun D => Dsk0.cut D (qs.take n)) = { S with bays := (Shf0.turnD T k fun D => Dsk0.cut D (qs.take n)).bays } := by
          unfold Shf0.turnD
          conv => lhs; rw [HTE.out]
        have HTE' := Lib.hid hTe'
        have hcut' : Shf0.cutBays S.bays ps = (Shf0.turnD T k fun D => Dsk0.cut D (qs.take n)).bays.take (k + 1) ++ Shf0.cutBays ((Shf0.turnD T k fun D => Dsk0.cut D (qs.take n)).bays.drop (k + 1)) (qs.drop n) := by
          show _ = (T.bays.modify k fun x => { x with D := Dsk0.cut x.D (qs.take n) }).take (k + 1) ++ Shf0.cutBays ((T.bays.modify k fun x => { x with D := Dsk0.cut x.D (qs.take n) }).drop (k + 1)) (qs.drop n)
          rw [hbay, HCUT.out, HDP.out, Shf0.cutBays_in HSBK.out H1.out qs { b with D := Dsk0.cut b.D (qs.take P) } (by rw [HPE.out]), ← HPE.out]
        have HCUT' := Lib.hid hcut'
        have hw5 := FF5.out.size
        have hI6 : IntsAt w6 (.slice a2 (qs.length - n) c2) (qs.drop n) (fun b => ¬ O b) := hI2.out.fr f6 (fun b _ hn hq => hn (hft b (.inr hq)))
        have HI6 := Lib.hid hI6
        have hffin : Fr O w w6 := (hfr.trans' FF5.out (U := fun q => q = wr.heap.size ∨ O q) (fun _ _ h => .inr h) (fun _ _ h => .inl h)).trans' f6 (fun i hi h => h.elim (fun h => by omega) id) (fun q _ hq => hft q (.inr hq))
        have HF6 := Lib.hid hffin
        clear hffin hI6 hcut' hTe' hfin hbay f6 hnf hft hK p05 hs1
        go_wp2_with fail
        have hn : gk + k = nb := HM.out
        go_roundg (gk - 1)
        case measure => omega
        case rel => exact ⟨k + 1, _, qs.drop n, a2, c2, by omega, by go_num, by rw [List.length_drop], by rw [List.length_drop]; exact hc2, by rw [List.length_drop]; exact HI6.out, HFIN.out, HTE'.out, HCUT'.out, HF6.out⟩
      · have hb1 : (st == 1) = false := by simp [h1]
        have hcut' : Shf0.cutBays S.bays ps = T.bays.take (k + 1) ++ Shf0.cutBays (T.bays.drop (k + 1)) qs := by
          rw [HCUT.out]; exact Shf0.cutBays_out HSBK.out (by rw [← HST.out]; exact h1) qs
        have HCUT' := Lib.hid hcut'
        clear h1 hcut'
        unfold Loc.ptr at q0
        go_wp2_with (first
          | (refine im_alloc_row rfl 106 rfl (zero106 _) ?_; intro w3 b3 f3 z3; have B3 := Lib.hid b3; clear b3; have Z3 := Lib.hid z3; clear z3)
          | (refine im_store_row rfl 106 _ _ rfl (vs := #[.pointer (some ⟨L.g, 0, none⟩), .int .i64 st]) rfl rfl B3.out rfl info106 (bay_one _ rfl _) ?_; intro w4 b4 f4 z4; have p0 : w4.cell? ⟨wr.heap.size, 0, none⟩ = some (.pointer (some ⟨L.g, 0, none⟩)) := cell_of_blk b4; have p1 : w4.cell? ⟨wr.heap.size, 1, none⟩ = some (.int .i64 st) := cell_of_blk b4; have hl4 := lt_of_blk b4; clear b4; have Z4 := Lib.hid z4; clear z4))
        have hz3 := Z3.out
        have hz4 := Z4.out
        have ff : Fr (fun q => q = wr.heap.size) wr w4 := f3.no.trans f4
        have hno : ∀ q, O q → ¬ q = wr.heap.size := fun q hq e => by have := HIN.out.olt q hq; omega
        have hffin : Fr O w w4 := (hfr.trans' ff (U := fun q => q = wr.heap.size ∨ O q) (fun _ _ h => .inr h) (fun _ _ h => .inl h)).trans' (Fr.refl (fun _ => False) w4) (fun i hi h => h.elim (fun h => by omega) id) (fun _ _ h => h.elim)
        have hn : gk + k = nb := HM.out
        go_roundg (gk - 1)
        case measure => omega
        case rel => exact ⟨k + 1, T, qs, qa, qc, by omega, by go_num, rfl, hqc, HQ.out.fr ff (fun b hb _ e => by omega), ⟨_, _, _, HBL.out, HIN.out.fr ff hno⟩, HTE.out, HCUT'.out, hffin⟩
    · have hkn : k = nb := by have := HM.out; omega
      have hbays : T.bays = Shf0.cutBays S.bays ps := by
        rw [HCUT.out, hkn, List.take_of_length_le (by omega), List.drop_of_length_le (by omega)]; simp [Shf0.cutBays]
      have HBY := Lib.hid hbays
      have HB := Lib.hid hin.head
      have hOs := hin.os
      clear hin hbl hTl hbays
      go_wp2_with (first
        | (refine im_store1 (j := 8) rfl 4 _ _ rfl (b := s) (v := .bool false) rfl rfl rfl (by kernel_rfl) HB.out (by simp [shelfC]) ?_; intro w2 b2 f2 z2; have B2 := Lib.hid b2; clear b2; clear z2)
        | (refine im_store1 (j := 9) rfl 4 _ _ rfl (b := s) (v := .bool false) rfl rfl rfl (by kernel_rfl) B2.out (by simp [shelfC]) ?_; intro w3 b3 f3 z3; have B3 := Lib.hid b3; clear b3; clear z3))
      go_end0
      have hok := HIN.out.ok
      have hmt : Shf0.mount S ps = { T with off := false, fused := false } := by
        unfold Shf0.mount
        rw [← HBY.out]
        conv => rhs; rw [HTE.out]
      refine ⟨rfl, ?_, hfr.trans ((f2.trans f3).mono fun q _ hq => by rw [hq]; exact hOs)⟩
      rw [hmt]
      exact ⟨_, _, _, _, HIN.out.setHead (S' := { T with off := false, fused := false }) (f2.trans f3) B3.out ⟨hok.cfg, hok.sec, hok.num, hok.bay, hok.len, hok.st, hok.img⟩ rfl rfl⟩
end
end Go.Proofs.Ytmbkmfpnjpkakaa

namespace Go.Im
open Go
/-- One element of several cells appended to a row that the call has made: which block may have turned. -/
theorem wp_append_el {P : Program} {Q : Exit → Act → World → Prop} {o : Oper} {a : Act} {w : World} {K : Act → World → Prop} (s x : Operand) (t : TypeId) (hop : o.op = .call { callee := .builtin .append, args := #[s, x], argTypes := #[t, t] })
    (base : Nat) {e : TypeId} {i : TypeInfo} {z : Value} {size bytes : Nat} (ht : P.underlying t = some (.slice e)) (hi : P.info? e = some i) (hz : i.zero = some z)
    (hsize : i.size = size) (hby : i.bytes = bytes) (hzs : z.cells.size = size) (hsz : 0 < size)
    {v : Value} {n : Nat} {xs : List Value} (hs : a.eval s = v) (hown : w.ownsRow base e size v n xs)
    {b c : Nat} {cs : Array Value} {te : TypeId} (hx : a.eval x = .slice (some ⟨b, 0, none⟩) 1 c) (hb : w.heap[b]? = some (.cells cs te (0, 0))) (hl : cs.size = size) (h1 : ∀ u ∈ cs.toList, u.oneCell' = true)
    (h63 : n + 1 ≤ maxLen) (hbytes : (n + 1) * bytes ≤ 140737488355328) (hbase : base ≤ w.heap.size)
    (h : ∀ v' w', w'.ownsRow base e size v' (n + 1) (xs ++ cs.toList) → w.grownBy w' v.ownBlock → K (a.put o.dst v') w') : o.wp P a w K Q :=
  wp_append_own w s x t hop base e i z size bytes ht hi hz hsize hby hzs hsz v n xs hs hown ⟨b, 0, none⟩ 1 c cs.toList hx (by simp [hl]) (fun j u hj => by
    have e1 : (⟨b, 0, none⟩ : Addr).add j = ⟨b, j, none⟩ := by simp [Addr.add]; omega
    rw [e1, cell_of_blk hb]; simpa using hj) h1 h63 hbytes hbase fun v' w' h2 h3 _ => h v' w' h2 h3
end Go.Im
namespace Go.Proofs.Ytmbkmfpnjpkakaa
open Go.RowKit Go.Im Go.Dsk0

theorem info106' : (Try.prog.info? 106).map (fun i => (i.zero, i.size, i.bytes)) = some (some (.agg #[.pointer none, .int .i64 0]), 2, 16) := by kernel_rfl
theorem mt101 : Try.prog.underlying 101 = some (.slice 106) := by kernel_rfl

set_option maxRecDepth 100000 in
theorem snew_bad (c : Shf0.Cfg) (w : World) (hv : ¬ Shf0.valid c) : Calls Try.prog 17 #[cfgV c] w fun e w' => e = .returned (.tuple #[.pointer none, .int .i64 1]) ∧ Fr (fun _ => False) w w' := by
  have hck := fun W => check_calls c W
  rw [if_neg hv] at hck
  obtain ⟨n0, n1, n2, n3, n4, n5⟩ := c
  have HCK := Lib.hid hck
  clear hck hv
  unfold cfgV at HCK ⊢
  simp only at HCK ⊢
  go_enter Try.func17, Try.ntmps17
  go_wp2_with (first
    | (refine im_box rfl 23 _ rfl rfl ?_; intro w1 b1 f1 z1; have Z1 := Lib.hid z1; clear z1; obtain ⟨p0, p1, p2, p3, p4, p5⟩ := cfgA_cells (c := ⟨n0, n1, n2, n3, n4, n5⟩) b1; have hl1 := lt_of_blk b1; clear b1))
  refine (HCK.out _).mono ?_; rintro e w2 ⟨rfl, f2⟩
  go_wp2_with fail
  go_ret2
  exact ⟨rfl, f1.trans f2⟩

set_option maxRecDepth 100000 in
theorem snew_big (c : Shf0.Cfg) (w : World) (hv : Shf0.valid c) (hs : 65536 < Shf0.sectors c) : Calls Try.prog 17 #[cfgV c] w fun e w' => e = .returned (.tuple #[.pointer none, .int .i64 2]) ∧ Fr (fun _ => False) w w' := by
  have hck := fun W => check_calls c W
  rw [if_pos hv] at hck
  have hsc := fun W => sectors_calls c W hv
  obtain ⟨n, hn⟩ : ∃ n, n = Shf0.sectors c := ⟨_, rfl⟩
  rw [← hn] at hsc hs
  clear hn
  obtain ⟨n0, n1, n2, n3, n4, n5⟩ := c
  have HCK := Lib.hid hck
  have HSC := Lib.hid hsc
  clear hck hv hsc
  unfold cfgV at HCK HSC ⊢
  simp only at HCK HSC ⊢
  go_enter Try.func17, Try.ntmps17
  go_wp2_with (first
    | (refine im_box rfl 23 _ rfl rfl ?_; intro w1 b1 f1 z1; have Z1 := Lib.hid z1; clear z1; obtain ⟨p0, p1, p2, p3, p4, p5⟩ := cfgA_cells (c := ⟨n0, n1, n2, n3, n4, n5⟩) b1; have hl1 := lt_of_blk b1; clear b1))
  refine (HCK.out _).mono ?_; rintro e w2 ⟨rfl, f2⟩
  have q0 := (f2.cb hl1 (fun h => h)).trans p0
  have q1 := (f2.cb hl1 (fun h => h)).trans p1
  have q2 := (f2.cb hl1 (fun h => h)).trans p2
  have q3 := (f2.cb hl1 (fun h => h)).trans p3
  have q4 := (f2.cb hl1 (fun h => h)).trans p4
  have q5 := (f2.cb hl1 (fun h => h)).trans p5
  clear p0 p1 p2 p3 p4 p5
  go_wp2_with fail
  refine (HSC.out _).mono ?_; rintro e w3 ⟨rfl, f3⟩
  go_wp2_with fail
  go_ret2
  exact ⟨rfl, (f1.trans f2).trans f3⟩

theorem row_keep' {w w' : World} {base : Nat} {e : TypeId} {size : Nat} {v : Value} {n : Nat} {xs : List Value} (h : w.ownsRow base e size v n xs) (f : Fr (fun _ => False) w w') : w'.ownsRow base e size v n xs := row_fr h f (fun _ _ _ h => h)
theorem own_not {w : World} {base : Nat} {e : TypeId} {size : Nat} {v : Value} {n : Nat} {xs : List Value} (h : w.ownsRow base e size v n xs) {b : Nat} {cs : Array Value} {t : TypeId} {fr : Nat × Nat} (hb : w.heap[b]? = some (.cells cs t fr)) (ht : t ≠ e) : ¬ some b = v.ownBlock := fun he => by
  obtain ⟨-, h2 | ⟨g, cap, cur, h2, -, h4, -⟩⟩ := h
  · rw [h2.1] at he; cases he
  · rw [h2] at he; injection he with he; subst he; exact ht (cells_type hb h4)
theorem own_disk {w : World} {base : Nat} {e : TypeId} {size : Nat} {v : Value} {n : Nat} {xs : List Value} (h : w.ownsRow base e size v n xs) {L : Loc} {D : Dsk} (hd : DK w L D) (h1 : e ≠ 126) (h2 : e ≠ 119) : ∀ q, L.has q → ¬ some q = v.ownBlock := fun q hq he => by
  obtain ⟨-, a2 | ⟨g, cap, cur, a2, -, a4, -⟩⟩ := h
  · rw [a2.1] at he; cases he
  · rw [a2] at he; injection he with he; subst he; exact hd.not a4 h1 h2 hq
theorem fr_below' {w w' : World} (h : Fr (fun q => w.heap.size ≤ q) w w') : Fr (fun _ => False) w w' := h.mono fun q hq h => by omega
/-- What New leaves. -/
def SNew (c : Shf0.Cfg) (w : World) (e : Ending) (w' : World) : Prop := ∃ s : Nat, e = .returned (.tuple #[.pointer (some ⟨s, 0, none⟩), .int .i64 0]) ∧ ShelfAt w' (fun q => w.heap.size ≤ q ∧ q < w'.heap.size) s (Shf0.newS c) ∧ Fr (fun _ => False) w w'

/-- The parts of a shelf that is being made. -/
structure Making (w0 : World) (c : Shf0.Cfg) (s : Nat) (k : Nat) (bs : List (Loc × Shf0.Bay)) (bv : Value) (w : World) : Prop where
  head : w.heap[s]? = some (.cells #[.int .i64 c.disks, .int .i64 c.racks, .int .i64 c.rows, .int .i64 c.spare, .int .i64 c.log, .int .i64 c.image, bv, .slice none 0 0, .bool false, .bool false, .int .i64 0] 104 (0, 0))
  row : w.ownsRow w0.heap.size 106 2 bv k (bs.flatMap bayC)
  len : bs.length = k
  each : ∀ x ∈ bs, x.2 = ⟨new (Shf0.sectors c), 1⟩ ∧ DK w x.1 x.2.D ∧ ∀ q, x.1.has q → w0.heap.size ≤ q
  apart : (bs.map (·.1)).Pairwise Apart
  fr : Fr (fun q => w0.heap.size ≤ q) w0 w
  ge : w0.heap.size ≤ s

theorem Making.done {w0 w : World} {c : Shf0.Cfg} {s k : Nat} {bs : List (Loc × Shf0.Bay)} {bv : Value} (h : Making w0 c s k bs bv w) (hv : Shf0.valid c) (hs : Shf0.sectors c ≤ 65536) (hk : k = c.disks.toNat) : ShelfAt w (fun q => w0.heap.size ≤ q ∧ q < w.heap.size) s (Shf0.newS c) := by
  obtain ⟨-, -, h3, h4, h5, h6, h7, h8⟩ := valid_bd hv
  have hsp : 0 ≤ Shf0.sectors c := by unfold Shf0.sectors; omega
  have hnl : ((new (Shf0.sectors c)).length : Int) = Shf0.sectors c := by rw [new_length]; omega
  have eb : (Shf0.newS c).bays = bs.map (·.2) := by
    show List.replicate _ _ = _
    symm
    rw [List.eq_replicate_iff]
    refine ⟨by rw [List.length_map, h.len, hk], fun b hb => ?_⟩
    obtain ⟨x, hx, rfl⟩ := List.mem_map.1 hb
    exact (h.each x hx).1
  have hall : ∀ b ∈ (Shf0.newS c).bays, b = ⟨new (Shf0.sectors c), 1⟩ := fun b hb => (List.mem_replicate.1 hb).2
  refine ⟨bs, [], bv, .slice none 0 0, ⟨hv, hs, by simp [Shf0.newS], fun b hb => by rw [hall b hb]; exact Dsk0.Ok.new _, fun b hb _ => by rw [hall b hb]; exact hnl, fun b hb => .inl (by rw [hall b hb]), fun D hD => by cases hD⟩, eb, rfl, h.head, ?_, World.ownsRow_nil _ _ _ _, fun x hx => (h.each x hx).2.1, fun x hx => (by cases hx), by simpa using h.apart, ⟨h.ge, lt_of_blk h.head⟩, fun q hq => ?_, fun q hq => (by cases hq), fun L hL q hq => ?_, fun q hq => hq.2⟩
  · rw [h.len]
    obtain ⟨a1, a2 | ⟨g, cap, cur, a2, a3, a4⟩⟩ := h.row
    · exact ⟨a1, .inl a2⟩
    · exact ⟨a1, .inr ⟨g, cap, cur, a2, Nat.zero_le _, a4⟩⟩
  · obtain ⟨a1, a2 | ⟨g, cap, cur, a2, a3, a4, -⟩⟩ := h.row
    · rw [a2.1] at hq; cases hq
    · rw [a2] at hq; injection hq with hq; subst hq; exact ⟨a3, lt_of_blk a4⟩
  · simp only [List.map_nil, List.append_nil, List.mem_map] at hL
    obtain ⟨x, hx, rfl⟩ := hL
    exact ⟨(h.each x hx).2.2 q hq, (h.each x hx).2.1.lthas hq⟩

set_option maxRecDepth 100000 in
set_option maxHeartbeats 2000000 in
theorem snew_ok (c : Shf0.Cfg) (w : World) (hv : Shf0.valid c) (hs : Shf0.sectors c ≤ 65536) : Calls Try.prog 17 #[cfgV c] w fun e w' => SNew c w e w' := by
  obtain ⟨d1, d2, -⟩ := valid_bd hv
  have hck := fun W => check_calls c W
  rw [if_pos hv] at hck
  have hsc := fun W => sectors_calls c W hv
  obtain ⟨n, hn⟩ : ∃ n, n = Shf0.sectors c := ⟨_, rfl⟩
  have hsn : ¬ 65536 < n := by omega
  rw [← hn] at hsc
  have HN := Lib.hid hn; clear hn
  obtain ⟨N, hN⟩ : ∃ N : Nat, c.disks = (N : Int) := ⟨c.disks.toNat, by omega⟩
  have hN64 : N ≤ 64 := by omega
  have HV := Lib.hid hv
  have HS := Lib.hid hs
  have HC := Lib.hid (show c = ⟨N, c.racks, c.rows, c.spare, c.log, c.image⟩ from by rw [← hN])
  have HCK := Lib.hid hck
  have HSC := Lib.hid hsc
  clear hck hv hsc hs
  obtain ⟨i0, hi, hy0, hy1, hy2⟩ := info_parts info106'
  obtain ⟨n1, hn1⟩ : ∃ x, x = c.racks := ⟨_, rfl⟩
  obtain ⟨n2, hn2⟩ : ∃ x, x = c.rows := ⟨_, rfl⟩
  obtain ⟨n3, hn3⟩ : ∃ x, x = c.spare := ⟨_, rfl⟩
  obtain ⟨n4, hn4⟩ : ∃ x, x = c.log := ⟨_, rfl⟩
  obtain ⟨n5, hn5⟩ : ∃ x, x = c.image := ⟨_, rfl⟩
  have hcv : cfgV c = .agg #[.int .i64 N, .int .i64 n1, .int .i64 n2, .int .i64 n3, .int .i64 n4, .int .i64 n5] := by unfold cfgV; rw [hN, hn1, hn2, hn3, hn4, hn5]
  rw [hcv] at HCK HSC ⊢
  have hmk0 : ∀ (W : World) (s : Nat), w.heap.size ≤ s → Fr (fun _ => False) w W → W.heap[s]? = some (.cells #[.int .i64 N, .int .i64 n1, .int .i64 n2, .int .i64 n3, .int .i64 n4, .int .i64 n5, .slice none 0 0, .slice none 0 0, .bool false, .bool false, .int .i64 0] 104 (0, 0)) → Making w c s 0 [] (.slice none 0 0) W := fun W s h1 h2 h3 =>
    ⟨by rw [hN, ← hn1, ← hn2, ← hn3, ← hn4, ← hn5]; exact h3, World.ownsRow_nil _ _ _ _, rfl, (fun x hx => nomatch hx), List.Pairwise.nil, h2.no, h1⟩
  have HMK0 := Lib.hid hmk0
  have HCE := Lib.hid (And.intro hN (And.intro hn1 (And.intro hn2 (And.intro hn3 (And.intro hn4 hn5)))))
  clear hcv hn1 hn2 hn3 hn4 hn5 hmk0 hN d1 d2
  go_enter Try.func17, Try.ntmps17
  go_wp2_with (first
    | (refine im_box rfl 23 _ rfl rfl ?_; intro w1 b1 f1 z1; have Z1 := Lib.hid z1; clear z1; obtain ⟨p0, p1, p2, p3, p4, p5⟩ := cfgA_cells (c := ⟨N, n1, n2, n3, n4, n5⟩) b1; have hl1 := lt_of_blk b1; have HCB1 := Lib.hid b1; clear b1))
  refine (HCK.out _).mono ?_; rintro e w2 ⟨rfl, f2⟩
  have q0 := (f2.cb hl1 (fun h => h)).trans p0
  have q1 := (f2.cb hl1 (fun h => h)).trans p1
  have q2 := (f2.cb hl1 (fun h => h)).trans p2
  have q3 := (f2.cb hl1 (fun h => h)).trans p3
  have q4 := (f2.cb hl1 (fun h => h)).trans p4
  have q5 := (f2.cb hl1 (fun h => h)).trans p5
  have hl2 := Nat.lt_of_lt_of_le hl1 f2.size
  clear p0 p1 p2 p3 p4 p5
  go_wp2_with fail
  refine (HSC.out _).mono ?_; rintro e w3 ⟨rfl, f3⟩
  have r0 := (f3.cb hl2 (fun h => h)).trans q0
  have r1 := (f3.cb hl2 (fun h => h)).trans q1
  have r2 := (f3.cb hl2 (fun h => h)).trans q2
  have r3 := (f3.cb hl2 (fun h => h)).trans q3
  have r4 := (f3.cb hl2 (fun h => h)).trans q4
  have r5 := (f3.cb hl2 (fun h => h)).trans q5
  have hl3 := Nat.lt_of_lt_of_le hl2 f3.size
  clear q0 q1 q2 q3 q4 q5
  go_wp2_with (first
    | (refine im_box rfl 104 _ rfl (v := .agg #[.int .i64 N, .int .i64 n1, .int .i64 n2, .int .i64 n3, .int .i64 n4, .int .i64 n5, .slice none 0 0, .slice none 0 0, .bool false, .bool false, .int .i64 0]) rfl ?_; intro w4 b4 f4 z4; have B4 := Lib.hid b4; clear b4; have Z4 := Lib.hid z4; clear z4; have t0 := (f4.cb hl3 (fun h => h)).trans r0; have t1 := (f4.cb hl3 (fun h => h)).trans r1; have t2 := (f4.cb hl3 (fun h => h)).trans r2; have t3 := (f4.cb hl3 (fun h => h)).trans r3; have t4 := (f4.cb hl3 (fun h => h)).trans r4; have t5 := (f4.cb hl3 (fun h => h)).trans r5; have hl4 := Nat.lt_of_lt_of_le hl3 f4.size))
  have hz4 := Z4.out
  have hz3 := f3.size
  have hz2 := f2.size
  have hz1 := Z1.out
  have ff4 := (((f1.trans f2).trans f3).trans f4)
  have HCB := Lib.hid ((f4.block _ hl3 (fun h => h)).trans ((f3.block _ hl2 (fun h => h)).trans ((f2.block _ hl1 (fun h => h)).trans HCB1.out)))
  clear HCB1
  have HMK := Lib.hid (HMK0.out w4 w3.heap.size (by omega) ff4 B4.out)
  obtain ⟨sb, hsb⟩ : ∃ sb, sb = w3.heap.size := ⟨_, rfl⟩
  rw [← hsb] at HMK ⊢
  have hsb1 : w.heap.size + 1 ≤ sb := by omega
  clear B4 Z4 hsb f1 f2 f3 f4 ff4 HMK0 r0 r1 r2 r3 r4 r5
  go_loopg [16] N (fun m t wr => ∃ (k : Nat) (bs : List (Loc × Shf0.Bay)) (bv : Value), m + k = N ∧ t = .int .i64 k ∧ Making w c sb k bs bv wr ∧ Fr (fun q => w.heap.size + 1 ≤ q) w4 wr)
  case atStart => exact ⟨0, _, _, rfl, rfl, HMK.out, Fr.refl _ _⟩
  case round =>
    obtain ⟨k, bs, bv, hm, rfl, hmk, hfr⟩ := hrel
    have HM := Lib.hid hm; clear hm
    have HK := Lib.hid hmk; clear hmk
    have hrs := hfr.size
    by_cases hk : k < N
    · obtain ⟨a1, a2, a3, a4, a5, a6⟩ := HCE.out
      have hh := HK.out.head
      rw [a1, ← a2, ← a3, ← a4, ← a5, ← a6] at hh
      have HH := Lib.hid hh
      have c6 : wr.cell? ⟨sb, 6, none⟩ = some bv := cell_of_blk hh
      have u0 := (hfr.cb hl4 (by omega)).trans t0
      have u1 := (hfr.cb hl4 (by omega)).trans t1
      have u2 := (hfr.cb hl4 (by omega)).trans t2
      have u3 := (hfr.cb hl4 (by omega)).trans t3
      have u4 := (hfr.cb hl4 (by omega)).trans t4
      have u5 := (hfr.cb hl4 (by omega)).trans t5
      clear hh a1 a2 a3 a4 a5 a6 t0 t1 t2 t3 t4 t5
      have k1 : (k : Int) < N := by omega
      have hS : (fun W : World => W.cell? ⟨sb, 6, none⟩ = some bv ∧ W.cell? ⟨w.heap.size, 0, none⟩ = some (.int .i64 N) ∧ W.cell? ⟨w.heap.size, 1, none⟩ = some (.int .i64 n1) ∧ W.cell? ⟨w.heap.size, 2, none⟩ = some (.int .i64 n2) ∧ W.cell? ⟨w.heap.size, 3, none⟩ = some (.int .i64 n3) ∧ W.cell? ⟨w.heap.size, 4, none⟩ = some (.int .i64 n4) ∧ W.cell? ⟨w.heap.size, 5, none⟩ = some (.int .i64 n5)) wr.drew := ⟨c6, u0, u1, u2, u3, u4, u5⟩
      go_wp2_with fail
      refine wp_region_seqF (fun W => W.cell? ⟨sb, 6, none⟩ = some bv ∧ W.cell? ⟨w.heap.size, 0, none⟩ = some (.int .i64 N) ∧ W.cell? ⟨w.heap.size, 1, none⟩ = some (.int .i64 n1) ∧ W.cell? ⟨w.heap.size, 2, none⟩ = some (.int .i64 n2) ∧ W.cell? ⟨w.heap.size, 3, none⟩ = some (.int .i64 n3) ∧ W.cell? ⟨w.heap.size, 4, none⟩ = some (.int .i64 n4) ∧ W.cell? ⟨w.heap.size, 5, none⟩ = some (.int .i64 n5)) [0, 1, 2, 3, 4, 5, 6, 7, 8, 9, 10, 11, 12, 13] [6, 7, 9, 10, 13] 13 (by kernel_rfl) (by kernel_rfl) (by kernel_rfl) ?_
      simp only [pickOps, List.filterMap_cons, List.filterMap_nil, List.getElem?_toArray, List.getElem?_cons_zero, List.getElem?_cons_succ, Option.map_some]
      repeat (refine seqF_read (v := ?_) (by rfl) (by rfl) hS ?_ ?_; rotate_left; (focus (intro W hS; (try dsimp only at hS); obtain ⟨s1, s2, s3, s4, s5, s6, s7⟩ := hS; go_simp; try with_reducible rfl)); simp only [Act.put, List.setIfInBounds_toArray, List.set_cons_zero, List.set_cons_succ])
      refine seqF_eff (by rfl) (by rfl) fun K hK => ?_
      have hsl : sb < wr.heap.size := lt_of_blk HH.out
      have hcl : w.heap.size < wr.heap.size := Nat.lt_of_lt_of_le hl4 hrs
      refine wp_callC 61 #[.agg #[.int .i64 N, .int .i64 n1, .int .i64 n2, .int .i64 n3, .int .i64 n4, .int .i64 n5]] (by go_simp) (R := fun v w' => v = .int .i64 n ∧ Fr (fun _ => False) wr w') ((HSC.out wr.drew).mono (by rintro e w' ⟨rfl, hf⟩; exact ⟨_, rfl, rfl, hf.undrew⟩)) ?_
      rintro v x1 ⟨rfl, g1⟩
      have hS1 : (fun W : World => W.cell? ⟨sb, 6, none⟩ = some bv ∧ W.cell? ⟨w.heap.size, 0, none⟩ = some (.int .i64 N) ∧ W.cell? ⟨w.heap.size, 1, none⟩ = some (.int .i64 n1) ∧ W.cell? ⟨w.heap.size, 2, none⟩ = some (.int .i64 n2) ∧ W.cell? ⟨w.heap.size, 3, none⟩ = some (.int .i64 n3) ∧ W.cell? ⟨w.heap.size, 4, none⟩ = some (.int .i64 n4) ∧ W.cell? ⟨w.heap.size, 5, none⟩ = some (.int .i64 n5)) x1 :=
        ⟨(g1.cb hsl (fun h => h)).trans c6, (g1.cb hcl (fun h => h)).trans u0, (g1.cb hcl (fun h => h)).trans u1, (g1.cb hcl (fun h => h)).trans u2, (g1.cb hcl (fun h => h)).trans u3, (g1.cb hcl (fun h => h)).trans u4, (g1.cb hcl (fun h => h)).trans u5⟩
      refine hK.out _ _ (fun _ => hS1) ?_
      simp only [Act.put, List.setIfInBounds_toArray, List.set_cons_zero, List.set_cons_succ]
      refine seqF_eff (by rfl) (by rfl) fun K hK => ?_
      refine wp_callC 24 #[.int .i64 n] (by go_simp) (R := fun v w' => ∃ L : Loc, v = .pointer (some ⟨L.g, 0, none⟩) ∧ DK w' L (new n) ∧ (∀ q, L.has q → x1.heap.size ≤ q) ∧ Fr (fun _ => False) x1 w') ((new_calls n x1).mono (by
        rintro e w' ⟨g, bd, bc, ba, rfl, hd, hf, hbd, hbc, hba, hg⟩
        obtain ⟨L, hLg, hL, hLh⟩ := DK.of hd x1.heap.size hg hbd hbc hba
        exact ⟨_, rfl, L, by rw [hLg], hL, hLh, hf⟩)) ?_
      rintro v x2 ⟨L, rfl, hL, hLh, g2⟩
      have hsl1 := Nat.lt_of_lt_of_le hsl g1.size
      have hcl1 := Nat.lt_of_lt_of_le hcl g1.size
      have hS2 : (fun W : World => W.cell? ⟨sb, 6, none⟩ = some bv ∧ W.cell? ⟨w.heap.size, 0, none⟩ = some (.int .i64 N) ∧ W.cell? ⟨w.heap.size, 1, none⟩ = some (.int .i64 n1) ∧ W.cell? ⟨w.heap.size, 2, none⟩ = some (.int .i64 n2) ∧ W.cell? ⟨w.heap.size, 3, none⟩ = some (.int .i64 n3) ∧ W.cell? ⟨w.heap.size, 4, none⟩ = some (.int .i64 n4) ∧ W.cell? ⟨w.heap.size, 5, none⟩ = some (.int .i64 n5)) x2 :=
        ⟨(g2.cb hsl1 (fun h => h)).trans hS1.1, (g2.cb hcl1 (fun h => h)).trans hS1.2.1, (g2.cb hcl1 (fun h => h)).trans hS1.2.2.1, (g2.cb hcl1 (fun h => h)).trans hS1.2.2.2.1, (g2.cb hcl1 (fun h => h)).trans hS1.2.2.2.2.1, (g2.cb hcl1 (fun h => h)).trans hS1.2.2.2.2.2.1, (g2.cb hcl1 (fun h => h)).trans hS1.2.2.2.2.2.2⟩
      have hDL := Lib.hid hL; clear hL
      have hLH := Lib.hid hLh; clear hLh
      refine hK.out _ _ (fun _ => hS2) ?_
      simp only [Act.put, List.setIfInBounds_toArray, List.set_cons_zero, List.set_cons_succ]
      repeat (refine seqF_read (v := ?_) (by rfl) (by rfl) hS2 ?_ ?_; rotate_left; (focus (intro W hS; (try dsimp only at hS); obtain ⟨s1, s2, s3, s4, s5, s6, s7⟩ := hS; go_simp; try with_reducible rfl)); simp only [Act.put, List.setIfInBounds_toArray, List.set_cons_zero, List.set_cons_succ])
      refine seqF_eff (by rfl) (by rfl) fun K hK => ?_
      unfold Oper.wp
      go_simp
      obtain ⟨x3, hx3⟩ : ∃ x3, x3 = x2.alloc (.cells #[.pointer (some ⟨L.g, 0, none⟩), .int .i64 1] 106) := ⟨_, rfl⟩
      have b3 : x3.heap[x2.heap.size]? = some (.cells #[.pointer (some ⟨L.g, 0, none⟩), .int .i64 1] 106 (0, 0)) := by rw [hx3]; exact heap_alloc_new x2 _
      have g3 : Fr (fun _ => False) x2 x3 := by rw [hx3]; exact (Fr.refl _ _).alloc _
      rw [← hx3]
      clear hx3
      have hsl2 := Nat.lt_of_lt_of_le hsl1 g2.size
      have hcl2 := Nat.lt_of_lt_of_le hcl1 g2.size
      have hS3 : (fun W : World => W.cell? ⟨sb, 6, none⟩ = some bv ∧ W.cell? ⟨w.heap.size, 0, none⟩ = some (.int .i64 N) ∧ W.cell? ⟨w.heap.size, 1, none⟩ = some (.int .i64 n1) ∧ W.cell? ⟨w.heap.size, 2, none⟩ = some (.int .i64 n2) ∧ W.cell? ⟨w.heap.size, 3, none⟩ = some (.int .i64 n3) ∧ W.cell? ⟨w.heap.size, 4, none⟩ = some (.int .i64 n4) ∧ W.cell? ⟨w.heap.size, 5, none⟩ = some (.int .i64 n5)) x3 :=
        ⟨(g3.cb hsl2 (fun h => h)).trans hS2.1, (g3.cb hcl2 (fun h => h)).trans hS2.2.1, (g3.cb hcl2 (fun h => h)).trans hS2.2.2.1, (g3.cb hcl2 (fun h => h)).trans hS2.2.2.2.1, (g3.cb hcl2 (fun h => h)).trans hS2.2.2.2.2.1, (g3.cb hcl2 (fun h => h)).trans hS2.2.2.2.2.2.1, (g3.cb hcl2 (fun h => h)).trans hS2.2.2.2.2.2.2⟩
      refine hK.out _ _ (fun _ => hS3) ?_
      refine seqF_eff (by rfl) (by rfl) fun K hK => ?_
      have g13 : Fr (fun _ => False) wr x3 := (g1.trans g2).trans g3
      have hrow3 := row_keep' HK.out.row g13
      have hlen := HK.out.len
      refine wp_append_el _ _ 101 rfl w.heap.size mt101 hi hy0 hy1 hy2 rfl (by decide) rfl hrow3 rfl b3 rfl (by simp [Value.oneCell']) (by unfold maxLen; omega) (by omega) (by have := g13.size; omega) ?_
      intro v' x4 o4 gr4
      have g4 : Fr (fun k => some k = bv.ownBlock) x3 x4 := Fr.of_grown gr4
      have hh3 := (g13.block _ hsl (fun h => h)).trans HH.out
      have HB3 := Lib.hid b3; clear b3
      have hns : ¬ some sb = bv.ownBlock := own_not hrow3 hh3 (by decide)
      have hcell3 : ∃ cs fr, x3.heap[w.heap.size]? = some (.cells cs 23 fr) := by
        have := HCB.out
        exact ⟨_, _, (g13.block _ hcl (fun h => h)).trans ((hfr.block _ hl4 (by omega)).trans this)⟩
      obtain ⟨ccs, cfr, hcb3⟩ := hcell3
      have hnc : ¬ some w.heap.size = bv.ownBlock := own_not hrow3 hcb3 (by decide)
      clear hcb3
      have hsl3 := Nat.lt_of_lt_of_le hsl g13.size
      have hcl3 := Nat.lt_of_lt_of_le hcl g13.size
      have hS4 : (fun W : World => W.cell? ⟨sb, 6, none⟩ = some bv ∧ W.cell? ⟨w.heap.size, 0, none⟩ = some (.int .i64 N) ∧ W.cell? ⟨w.heap.size, 1, none⟩ = some (.int .i64 n1) ∧ W.cell? ⟨w.heap.size, 2, none⟩ = some (.int .i64 n2) ∧ W.cell? ⟨w.heap.size, 3, none⟩ = some (.int .i64 n3) ∧ W.cell? ⟨w.heap.size, 4, none⟩ = some (.int .i64 n4) ∧ W.cell? ⟨w.heap.size, 5, none⟩ = some (.int .i64 n5)) x4 :=
        ⟨(g4.cb hsl3 hns).trans hS3.1, (g4.cb hcl3 hnc).trans hS3.2.1, (g4.cb hcl3 hnc).trans hS3.2.2.1, (g4.cb hcl3 hnc).trans hS3.2.2.2.1, (g4.cb hcl3 hnc).trans hS3.2.2.2.2.1, (g4.cb hcl3 hnc).trans hS3.2.2.2.2.2.1, (g4.cb hcl3 hnc).trans hS3.2.2.2.2.2.2⟩
      have O4 := Lib.hid o4; clear o4
      have HH4 := Lib.hid ((g4.block _ hsl3 hns).trans hh3)
      clear hh3
      refine hK.out _ _ (fun _ => hS4) ?_
      simp only [Act.put, List.setIfInBounds_toArray, List.set_cons_zero, List.set_cons_succ]
      repeat (refine seqF_read (v := ?_) (by rfl) (by rfl) hS4 ?_ ?_; rotate_left; (focus (intro W hS; (try dsimp only at hS); obtain ⟨s1, s2, s3, s4, s5, s6, s7⟩ := hS; go_simp; try with_reducible rfl)); simp only [Act.put, List.setIfInBounds_toArray, List.set_cons_zero, List.set_cons_succ])
      refine seqF_eff (by rfl) (by rfl) fun K hK => ?_
      have hv1 : v'.oneCell' = true := by
        obtain ⟨-, h2 | ⟨gb, vc, cur, h2, -⟩⟩ := O4.out
        · rw [h2.1]; rfl
        · rw [h2]; rfl
      refine wp_store1 101 _ _ rfl (v := v') rfl rfl hv1 (by kernel_rfl) HH4.out (by simp) ?_
      intro x5 b5 g5 z5
      have B5 := Lib.hid b5; clear b5 z5
      refine hK.out _ _ (fun h => absurd rfl h) ?_
      refine seqF_nil ?_
      have hmk5 : Making w c sb (k + 1) (bs ++ [(L, ⟨new (Shf0.sectors c), 1⟩)]) v' x5 := by
        have hdisk3 : ∀ (M : Loc) (D : Dsk), DK x3 M D → DK x5 M D := fun M D hd => (hd.fr g4 (own_disk hrow3 hd (by decide) (by decide))).fr g5 fun q hq e => by
          subst e
          exact (hd.fr g4 (own_disk hrow3 hd (by decide) (by decide))).not HH4.out (by decide) (by decide) hq
        have hnewD : DK x5 L (new (Shf0.sectors c)) := by
          have := hDL.out
          rw [HN.out] at this
          exact hdisk3 _ _ (this.keep g3)
        refine ⟨?_, ?_, by simp [HK.out.len], fun x hx => ?_, ?_, ?_, HK.out.ge⟩
        · have := B5.out
          rw [← HCE.out.1, HCE.out.2.1, HCE.out.2.2.1, HCE.out.2.2.2.1, HCE.out.2.2.2.2.1, HCE.out.2.2.2.2.2] at this
          exact this
        · rw [List.flatMap_append]
          exact own_row O4.out g5 (fun b cs hb e => by subst e; exact absurd (cells_type hb HH4.out) (by decide))
        · rcases List.mem_append.1 hx with hx | hx
          · obtain ⟨h1, h2, h3⟩ := HK.out.each x hx
            exact ⟨h1, hdisk3 _ _ (h2.keep g13), h3⟩
          · have e : x = (L, ⟨new (Shf0.sectors c), 1⟩) := by simpa using hx
            subst e
            exact ⟨rfl, hnewD, fun q hq => by have := hLH.out q hq; have := g1.size; omega⟩
        · rw [List.map_append, List.pairwise_append]
          refine ⟨HK.out.apart, by simp, fun M hM M2 hM2 => ?_⟩
          have e : M2 = L := by simpa using hM2
          subst e
          obtain ⟨x, hx, rfl⟩ := List.mem_map.1 hM
          intro q hq hq'
          have h1 := (HK.out.each x hx).2.1.lthas hq
          have h2 := hLH.out q hq'
          have := g1.size
          omega
        · refine ((HK.out.fr.trans g13.no).trans (g4.mono fun q _ hq => ?_)).trans (g5.mono fun q _ hq => ?_)
          · exact row_block hrow3 hq
          · rw [hq]; exact HK.out.ge
      have HMK5 := Lib.hid hmk5; clear hmk5
      have hfin : Fr (fun q => w.heap.size + 1 ≤ q) w4 x5 := by
        refine ((hfr.trans g13.no).trans (g4.mono fun q _ hq => ?_)).trans (g5.mono fun q _ hq => ?_)
        · have h1 := row_block hrow3 hq
          have h2 : q ≠ w.heap.size := fun e => hnc (by rw [← e]; exact hq)
          omega
        · omega
      have HFIN := Lib.hid hfin; clear hfin
      clear hK c6 u0 u1 u2 u3 u4 u5 hS hS1 hS2 hS3 hS4 g1 g2 g3 g4 g5 g13 gr4 HK HH HH4 O4 hDL hrow3 hv1 hns hnc
      go_wp2_with fail
      have hn : gk + k = N := HM.out
      go_roundg (gk - 1)
      case measure => omega
      case rel => exact ⟨k + 1, _, _, by omega, by go_num, HMK5.out, HFIN.out⟩
    · have hkn : k = N := by have := HM.out; omega
      have hkd : k = c.disks.toNat := by rw [HCE.out.1]; omega
      go_wp2_with fail
      go_ret2
      exact ⟨sb, rfl, HK.out.done HV.out HS.out hkd, fr_below' HK.out.fr⟩
end Go.Proofs.Ytmbkmfpnjpkakaa

namespace Go.Im
open Go
section
variable {P : Program} {Q : Exit → Act → World → Prop} {o : Oper} {a : Act} {w : World} {K : Act → World → Prop}
/-- A new slice of n zero elements, inside a region. -/
theorem wp_makeS (t : TypeId) (l c : Operand) (hop : o.op = Op.makeSlice t l c) {e : TypeId} (ht : P.underlying t = some (.slice e))
    {i : TypeInfo} (hi : P.info? e = some i) {z : Value} (hz : i.zero = some z) (n : Nat) {L C : Int} (hl : a.eval l = .int .i64 L) (hc : a.eval c = .int .i64 C) (hL : L = n) (hC : C = n) (hb : i.bytes * n ≤ 281474976710656) (hn : n ≤ 9223372036854775807)
    (hK : ∀ w', w'.heap[w.heap.size]? = some (.cells (madeCells z.cells (n * i.size)) e (0, 0)) → Fr (fun _ => False) w w' → w'.heap.size = w.heap.size + 1 → K (a.put o.dst (.slice (some ⟨w.heap.size, 0, none⟩) n n)) w') :
    o.wp P a w K Q := by
  subst hL; subst hC
  have hrun := run_make (P := P) w t e i z ht hi hz .i64 .i64 n n (by omega) (Int.le_refl _) (by
    have : ((i.bytes * n : Nat) : Int) ≤ 281474976710656 := by omega
    rwa [Int.natCast_mul] at this) (by omega)
  simp only [Int.toNat_natCast] at hrun
  unfold Oper.wp
  simp only [execOp, hop, hl, hc, Sem.run_bind, hrun, Result.andThen_ok, Sem.run_pure]
  exact hK _ (heap_alloc_new w _) ((Fr.refl _ _).alloc _) (by simp)
theorem wp_back (src dst : TypeId) (x : Operand) (hop : o.op = Op.convert src dst x) {b n cap : Nat} (hx : a.eval x = .slice (some ⟨b, 0, none⟩) n cap) {e : TypeId}
    (hs : P.underlying src = some (.slice e)) (he : P.underlying e = some (.int .u8)) (hd : P.underlying dst = some .string) {l : List UInt8} {t : TypeId} {fr : Nat × Nat} {cs : Array Value} (hb : w.heap[b]? = some (.cells cs t fr)) (hl : l.length = n) (hcs : ∀ (j : Nat) (x : UInt8), l[j]? = some x → cs[j]? = some (B x))
    (hK : K (a.put o.dst (.string ⟨l.toArray⟩)) w) : o.wp P a w K Q := by
  subst hl
  have hrun := run_convert_bytes_back (P := P) w src dst e ⟨b, 0, none⟩ cap l hs he hd (fun j hj => by
    rw [Addr.add_mid, Nat.zero_add, cell_of_blk hb]
    exact hcs j _ (List.getElem?_eq_getElem hj))
  unfold Oper.wp
  simp only [execOp, hop, hx, Sem.run_bind, hrun, Result.andThen_ok, Sem.run_pure]
  exact hK
end
end Go.Im
namespace Go.Proofs.Ytmbkmfpnjpkakaa
open Go.RowKit Go.Im Go.Dsk0

def cfg0 : Shf0.Cfg := ⟨2, 1, 3, 0, 1, 1⟩
def z64S : ByteArray := ⟨zeros.toArray⟩
theorem z64S_list : z64S.data.toList = zeros := rfl
theorem zero25 (w : World) : (zeroValue 25).run Try.prog w = .ok (.agg #[.int .i64 0, .int .i64 0, .int .i64 0]) w := by kernel_rfl
theorem info25 : (Try.prog.info? 25).map (·.size) = some 3 := by kernel_rfl
def plcA (p : Shf0.Place) : Array Value := #[.int .i64 p.disk, .int .i64 p.area, .int .i64 p.index]
theorem plcA_one (p : Shf0.Place) : (plcA p).all (·.oneCell') = true := by simp [plcA, Value.oneCell']
theorem made64 {w : World} {b : Nat} (hb : w.heap[b]? = some (.cells (madeCells (Value.int .u8 0).cells (64 * 1)) 5 (0, 0))) : ∃ cs, w.heap[b]? = some (.cells cs 5 (0, 0)) ∧ ∀ (j : Nat) (x : UInt8), zeros[j]? = some x → cs[j]? = some (B x) := by
  refine ⟨_, hb, fun j x hx => ?_⟩
  have hj : j < 64 := by
    have := (List.getElem?_eq_some_iff.1 hx).1
    simpa [zeros] using this
  rw [zeros_get j hj] at hx
  injection hx with hx; subst hx
  simp [madeCells, Value.cells, hj, B, Nat.mod_one]

theorem sane1 : Shf0.state (Shf0.newS cfg0) 1 = 1 := by kernel_rfl
theorem sane2 : Shf0.state (Shf0.newS cfg0) 2 = 0 := by kernel_rfl
theorem sane3 : (Shf0.write (Shf0.newS cfg0) ⟨0, 4, 2⟩ zeros).1 = 0 := by kernel_rfl
theorem sane4 (S : Shf0.Shelf) (h : S.cfg = cfg0) (x : List UInt8) : Shf0.write S ⟨0, 4, 3⟩ x = (1, S) := by
  unfold Shf0.write
  rw [if_neg]
  rintro ⟨⟨-, -, -, -, h5⟩, -⟩
  rw [h] at h5
  simp [Shf0.sizes, cfg0] at h5
theorem sane5 : (Shf0.write (Shf0.newS cfg0) ⟨0, 4, 2⟩ zeros).2.cfg = cfg0 := by kernel_rfl
theorem sane6 : (Shf0.flush (Shf0.fuse (Shf0.write (Shf0.newS cfg0) ⟨0, 4, 2⟩ zeros).2 0) 0).1 = 14 := by kernel_rfl
theorem sane7 : (Shf0.flush (Shf0.fuse (Shf0.write (Shf0.newS cfg0) ⟨0, 4, 2⟩ zeros).2 0) 0).2.off = true := by kernel_rfl

set_option maxRecDepth 100000 in
set_option maxHeartbeats 2000000 in
theorem ssanity_calls (w : World) : Calls Try.prog 15 #[] w fun e w' => e = .returned (.bool true) ∧ Fr (fun _ => False) w w' := by
  have hnew : Calls Try.prog 17 #[.agg #[.int .i64 2, .int .i64 1, .int .i64 3, .int .i64 0, .int .i64 1, .int .i64 1]] w fun e w' => SNew cfg0 w e w' := snew_ok cfg0 w (by decide) (by decide)
  obtain ⟨i0, hi, hy0, hy1, hy2⟩ := info_parts info5
  have HY1 := Lib.hid hy1; clear hy1
  have HY2 := Lib.hid hy2; clear hy2
  go_enter Try.func15, Try.ntmps15
  go_wp2_with fail
  refine hnew.mono ?_; rintro e w1 ⟨s, rfl, h1, f1⟩
  obtain ⟨S, hS⟩ : ∃ S, S = Shf0.newS cfg0 := ⟨_, rfl⟩
  rw [← hS] at h1
  have HS := Lib.hid hS; clear hS
  have H1 := Lib.hid h1; clear h1
  have F1 := Lib.hid f1; clear f1
  have hup : S.off = false := by rw [HS.out]; rfl
  have hst1 := state_calls H1.out 1
  have hst2 := state_calls H1.out 2
  have e1 : Shf0.state S 1 = 1 := by rw [HS.out]; exact sane1
  have e2 : Shf0.state S 2 = 0 := by rw [HS.out]; exact sane2
  rw [e1] at hst1
  rw [e2] at hst2
  have hupc := up_calls H1.out
  rw [hup] at hupc
  clear hup e1 e2
  go_wp2_with fail
  refine hupc.mono ?_; rintro e w' ⟨rfl, rfl⟩
  go_wp2_with fail
  refine hst1.mono ?_; rintro e w' ⟨rfl, rfl⟩
  go_wp2_with fail
  refine hst2.mono ?_; rintro e w' ⟨rfl, rfl⟩
  clear hst1 hst2 hupc
  go_wp2_with (first
    | (refine im_alloc_row rfl 25 rfl (zero25 _) ?_; intro w2 b2 f2 z2; have B2 := Lib.hid b2; clear b2; have Z2 := Lib.hid z2; clear z2)
    | (refine im_store_row rfl 25 _ _ rfl (vs := plcA ⟨0, 4, 2⟩) rfl rfl B2.out rfl info25 (plcA_one _) ?_; intro w3 b3 f3 z3; obtain ⟨p0, p1, p2⟩ := plc_cells (p := ⟨0, 4, 2⟩) b3; have hl3 := lt_of_blk b3; clear b3; have Z3 := Lib.hid z3; clear z3))
  have hz2 := Z2.out
  have hz3 := Z3.out
  have g3 : Fr (fun _ => False) w1 w3 := f2.trans' f3 (fun _ _ h => h) (fun i hi h => by omega)
  have H3 := Lib.hid (H1.out.keep g3)
  have G3 := Lib.hid (F1.out.trans g3)
  clear f2 f3 g3 hz2 hz3
  refine wp_region_seq (fun W => W.cell? ⟨w1.heap.size, 0, none⟩ = some (.int .i64 0) ∧ W.cell? ⟨w1.heap.size, 1, none⟩ = some (.int .i64 4) ∧ W.cell? ⟨w1.heap.size, 2, none⟩ = some (.int .i64 2)) [0, 1, 2, 3, 4, 5] [2, 3, 4, 5] (by kernel_rfl) (by kernel_rfl) (by kernel_rfl) ⟨p0, p1, p2⟩ ?_
  simp only [pickOps, List.filterMap_cons, List.filterMap_nil, List.getElem?_toArray, List.getElem?_cons_zero, List.getElem?_cons_succ, Option.map_some]
  repeat (refine seqH_read (v := ?_) (by rfl) (by rfl) ?_ ?_; rotate_left; (focus (intro W hS; (try dsimp only at hS); obtain ⟨s1, s2, s3⟩ := hS; go_simp; try with_reducible rfl)); simp only [Act.put, List.setIfInBounds_toArray, List.set_cons_zero, List.set_cons_succ])
  refine seqH_eff (by rfl) (by rfl) fun K hK => ?_
  refine wp_makeS 70 _ _ rfl u70 hi hy0 64 rfl rfl rfl rfl (by rw [HY2.out]; omega) (by omega) ?_
  intro w4 b4 f4 z4
  rw [HY1.out] at b4
  replace f4 := f4.undrew
  obtain ⟨mcs, mb, mh⟩ := made64 b4
  have MB := Lib.hid mb
  have MH := Lib.hid mh
  clear mb mh b4 z4
  refine hK.out _ _ ⟨(f4.cb hl3 (fun h => h)).trans p0, (f4.cb hl3 (fun h => h)).trans p1, (f4.cb hl3 (fun h => h)).trans p2⟩ ?_
  simp only [Act.put, List.setIfInBounds_toArray, List.set_cons_zero, List.set_cons_succ]
  refine seqH_eff (by rfl) (by rfl) fun K hK => ?_
  refine wp_back 70 9 _ rfl rfl u70 u5 u9 MB.out (by simp [zeros]) MH.out ?_
  refine hK.out _ _ ⟨(f4.cb hl3 (fun h => h)).trans p0, (f4.cb hl3 (fun h => h)).trans p1, (f4.cb hl3 (fun h => h)).trans p2⟩ ?_
  simp only [Act.put, List.setIfInBounds_toArray, List.set_cons_zero, List.set_cons_succ]
  refine seqH_eff (by rfl) (by rfl) fun K hK => ?_
  obtain ⟨S1, hS1⟩ : ∃ S1, S1 = (Shf0.write S ⟨0, 4, 2⟩ zeros).2 := ⟨_, rfl⟩
  have hr1 : (Shf0.write S ⟨0, 4, 2⟩ zeros).1 = 0 := by rw [HS.out]; exact sane3
  refine wp_callC 53 #[.pointer (some ⟨s, 0, none⟩), .agg #[.int .i64 0, .int .i64 4, .int .i64 2], .string ⟨zeros.toArray⟩] (by go_simp) (R := fun v w' => v = .int .i64 0 ∧ ShelfAt w' (fun q => w.heap.size ≤ q ∧ q < w1.heap.size) s S1 ∧ Fr (fun q => w.heap.size ≤ q ∧ q < w1.heap.size) w4 w')
    ((swrite_calls (H3.out.keep f4) ⟨0, 4, 2⟩ z64S).mono (by rintro e w' ⟨rfl, hs, hf⟩; rw [z64S_list, hr1] ; rw [z64S_list, ← hS1] at hs; exact ⟨_, rfl, rfl, hs, hf⟩)) ?_
  rintro v w5 ⟨rfl, s5, f5⟩
  have H5 := Lib.hid s5; clear s5
  have hnl : ¬ (w.heap.size ≤ w1.heap.size ∧ w1.heap.size < w1.heap.size) := by omega
  have hl4 := Nat.lt_of_lt_of_le hl3 f4.size
  refine hK.out _ _ ⟨(f5.cb hl4 hnl).trans ((f4.cb hl3 (fun h => h)).trans p0), (f5.cb hl4 hnl).trans ((f4.cb hl3 (fun h => h)).trans p1), (f5.cb hl4 hnl).trans ((f4.cb hl3 (fun h => h)).trans p2)⟩ ?_
  simp only [Act.put, List.setIfInBounds_toArray, List.set_cons_zero, List.set_cons_succ]
  refine seqH_eff (by rfl) (by rfl) fun K hK => ?_
  unfold Oper.wp
  go_simp
  refine hK.out _ _ ⟨(f5.cb hl4 hnl).trans ((f4.cb hl3 (fun h => h)).trans p0), (f5.cb hl4 hnl).trans ((f4.cb hl3 (fun h => h)).trans p1), (f5.cb hl4 hnl).trans ((f4.cb hl3 (fun h => h)).trans p2)⟩ ?_
  refine seqH_nil ?_
  have G5 := Lib.hid ((G3.out.trans f4).trans' f5 (U := fun _ => False) (fun _ _ h => h) (fun i hi h => by omega))
  clear hK p0 p1 p2 hl3 hl4 hnl f4 f5 H1 F1 H3 G3 MB MH
  have HS1 := Lib.hid hS1; clear hS1
  have hc1 : S1.cfg = cfg0 := by rw [HS1.out, HS.out]; exact sane5
  have HC1 := Lib.hid hc1; clear hc1 hr1
  go_wp2_with (first
    | (refine im_make rfl 70 _ _ rfl u70 hi hy0 64 rfl rfl rfl rfl (by rw [HY2.out]; omega) (by omega) ?_; intro w6 b6 f6 z6; rw [HY1.out] at b6; obtain ⟨ncs, nb, nh⟩ := made64 b6; have NB := Lib.hid nb; have NH := Lib.hid nh; clear nb nh b6 z6)
    | (refine im_back rfl 70 9 _ rfl rfl u70 u5 u9 NB.out (by simp [zeros]) NH.out ?_))
  have hw2 := swrite_calls (H5.out.keep f6) ⟨0, 4, 3⟩ z64S
  rw [sane4 S1 HC1.out] at hw2
  refine hw2.mono ?_; rintro e w7 ⟨rfl, s7, f7⟩
  have H7 := Lib.hid s7; clear s7 hw2
  have G7 := Lib.hid ((G5.out.trans f6).trans' f7 (U := fun _ => False) (fun _ _ h => h) (fun i hi h => by omega))
  clear f6 f7 NB NH
  go_wp2_with fail
  refine (fuse_calls H7.out 0).mono ?_; rintro e w8 ⟨rfl, s8, f8⟩
  have H8 := Lib.hid s8; clear s8
  have G8 := Lib.hid (G7.out.trans' f8 (U := fun _ => False) (fun _ _ h => h) (fun i hi h => by omega))
  clear f8
  go_wp2_with fail
  have hfl : (Shf0.flush (Shf0.fuse S1 0) 0).1 = 14 := by rw [HS1.out, HS.out]; exact sane6
  have hof : (Shf0.flush (Shf0.fuse S1 0) 0).2.off = true := by rw [HS1.out, HS.out]; exact sane7
  refine (sflush_calls H8.out 0).mono ?_; rintro e w9 ⟨rfl, s9, f9, -⟩
  rw [hfl]
  have H9 := Lib.hid s9; clear s9
  have G9 := Lib.hid (G8.out.trans' f9 (U := fun _ => False) (fun _ _ h => h) (fun i hi h => by omega))
  have hup := up_calls H9.out
  rw [hof] at hup
  clear f9 hfl hof
  go_wp2_with fail
  refine hup.mono ?_; rintro e w' ⟨rfl, rfl⟩
  clear hup
  go_wp2_with fail
  go_ret
  exact ⟨rfl, G9.out⟩
end Go.Proofs.Ytmbkmfpnjpkakaa

namespace Go.Shf0
/-- An operation of a script. -/
structure SOp where
  kind : Int
  at_ : Place
  tgt : Place
  n : Int
  fill : UInt8
  size : Int
  picks : List Int
/-- The bytes of a write. -/
def byteAt (fill : UInt8) (k : Nat) : UInt8 := fill + UInt8.ofNat (k % 3)
def text (o : SOp) : List UInt8 := (List.range (max 0 (min o.size 100)).toNat).map (byteAt o.fill)
def small (c : Cfg) : Bool := decide (c.disks ≤ 6 ∧ c.log ≤ 24 ∧ c.image ≤ 24 ∧ c.rows ≤ 24 ∧ sectors c ≤ 24)
end Go.Shf0
namespace Go.Proofs.Ytmbkmfpnjpkakaa
open Go.RowKit Go.Im Go.Dsk0

/-- An operation's cells. -/
def sopC (o : Shf0.SOp) (pv : Value) : Array Value :=
  #[.int .i64 o.kind, .int .i64 o.at_.disk, .int .i64 o.at_.area, .int .i64 o.at_.index, .int .i64 o.tgt.disk, .int .i64 o.tgt.area, .int .i64 o.tgt.index, .int .i64 o.n, B o.fill, .int .i64 o.size, pv]
theorem sopC_cells {w : World} {b : Nat} {o : Shf0.SOp} {pv : Value} {t : TypeId} {fr : Nat × Nat} (h : w.heap[b]? = some (.cells (sopC o pv) t fr)) :
    w.cell? ⟨b, 0, none⟩ = some (.int .i64 o.kind) ∧ w.cell? ⟨b, 1, none⟩ = some (.int .i64 o.at_.disk) ∧ w.cell? ⟨b, 2, none⟩ = some (.int .i64 o.at_.area) ∧ w.cell? ⟨b, 3, none⟩ = some (.int .i64 o.at_.index) ∧ w.cell? ⟨b, 4, none⟩ = some (.int .i64 o.tgt.disk) ∧ w.cell? ⟨b, 5, none⟩ = some (.int .i64 o.tgt.area) ∧ w.cell? ⟨b, 6, none⟩ = some (.int .i64 o.tgt.index) ∧ w.cell? ⟨b, 7, none⟩ = some (.int .i64 o.n) ∧ w.cell? ⟨b, 8, none⟩ = some (B o.fill) ∧ w.cell? ⟨b, 9, none⟩ = some (.int .i64 o.size) ∧ w.cell? ⟨b, 10, none⟩ = some pv :=
  ⟨cell_of_blk h, cell_of_blk h, cell_of_blk h, cell_of_blk h, cell_of_blk h, cell_of_blk h, cell_of_blk h, cell_of_blk h, cell_of_blk h, cell_of_blk h, cell_of_blk h⟩
theorem mt70s : Try.prog.underlying 70 = some (.slice 5) := u70
theorem mt5s : Try.prog.underlying 5 = some (.int .u8) := u5
theorem mt9s : Try.prog.underlying 9 = some .string := u9

theorem byte_add (fill : UInt8) (r : Nat) (_ : r < 3) : IntKind.u8.wrap ((fill.toNat : Int) + (r : Int)) = ((fill + UInt8.ofNat r).toNat : Int) := by
  have hf := fill.toNat_lt
  simp only [IntKind.wrap, IntKind.bits, IntKind.signed, Bool.false_and, Bool.false_eq_true, if_false, UInt8.toNat_add, UInt8.toNat_ofNat']
  omega

set_option maxRecDepth 100000 in
set_option maxHeartbeats 1000000 in
theorem text17_calls (o : Shf0.SOp) (pv : Value) (w : World) : Calls Try.prog 54 #[.agg (sopC o pv)] w fun e w' => e = .returned (.string ⟨(Shf0.text o).toArray⟩) ∧ Fr (fun _ => False) w w' := by
  obtain ⟨n, hn⟩ : ∃ n : Nat, max 0 (min o.size 100) = (n : Int) := ⟨(max 0 (min o.size 100)).toNat, by omega⟩
  have hn1 : n ≤ 100 := by omega
  have htx : Shf0.text o = (List.range n).map (Shf0.byteAt o.fill) := by unfold Shf0.text; rw [hn]; rfl
  rw [htx]
  clear htx
  obtain ⟨sz, hsz⟩ : ∃ sz, sz = o.size := ⟨_, rfl⟩
  rw [← hsz] at hn
  obtain ⟨fi, hfi⟩ : ∃ fi, fi = o.fill := ⟨_, rfl⟩
  rw [← hfi]
  obtain ⟨i0, hi, hy0, hy1, hy2⟩ := info_parts info5
  have HY1 := Lib.hid hy1; clear hy1
  have HY2 := Lib.hid hy2; clear hy2
  have hb0 : (0 : Int) ≤ fi.toNat := by omega
  obtain ⟨fz, hfz⟩ : ∃ fz : Int, fz = fi.toNat := ⟨_, rfl⟩
  have HFZ := Lib.hid hfz
  have hpick : ∀ (W : World) (b : Nat) (t : TypeId) (fr : Nat × Nat), W.heap[b]? = some (.cells (sopC o pv) t fr) → W.cell? ⟨b, 8, none⟩ = some (.int .u8 fz) ∧ W.cell? ⟨b, 9, none⟩ = some (.int .i64 sz) := fun W b t fr h => by
    obtain ⟨-, -, -, -, -, -, -, -, h8, h9, -⟩ := sopC_cells h
    rw [← hfi] at h8
    rw [← hsz] at h9
    exact ⟨by rw [hfz]; exact h8, h9⟩
  have HPK := Lib.hid hpick
  obtain ⟨A, hA⟩ : ∃ A, A = sopC o pv := ⟨_, rfl⟩
  rw [← hA] at HPK ⊢
  clear hpick hA hsz hfi hfz hb0
  go_enter Try.func54, Try.ntmps54
  go_wp2_with (first
    | (refine im_box rfl 90 _ rfl rfl ?_; intro w1 b1 f1 z1; have Z1 := Lib.hid z1; clear z1; obtain ⟨p8, p9⟩ := HPK.out _ _ _ _ b1; have hl1 := lt_of_blk b1; clear b1)
    | (refine im_make rfl 70 _ _ rfl mt70s hi hy0 n rfl rfl rfl rfl (by rw [HY2.out]; omega) (by omega) ?_; intro w2 b2 f2 z2; rw [HY1.out] at b2; have B2 := Lib.hid b2; clear b2; have Z2 := Lib.hid z2; clear z2; have p8' := (f2.cb hl1 (fun h => h)).trans p8))
  have hw1 := f1.size
  have f12 := f1.trans f2
  have hne1 : w.heap.size ≠ w1.heap.size := by have := Z1.out; omega
  have hl2 := lt_of_blk B2.out
  have hl1' := Nat.lt_of_lt_of_le hl1 f2.size
  clear f1 f2 p8 p9
  go_loopg [4] n (fun m t wr => ∃ (k : Nat) (cs : Array Value), m + k = n ∧ t = .int .i64 k ∧ wr.heap[w1.heap.size]? = some (.cells cs 5 (0, 0)) ∧ cs.size = n ∧ (∀ j, j < k → cs[j]? = some (B (Shf0.byteAt fi j))) ∧ Fr (fun q => q = w1.heap.size) w2 wr)
  case atStart => exact ⟨0, _, rfl, rfl, B2.out, by rw [size_madeCells]; omega, fun j hj => by omega, Fr.refl _ _⟩
  case round =>
    obtain ⟨k, cs, hm, rfl, hb, hcs, hall, hfr⟩ := hrel
    have HM := Lib.hid hm; clear hm
    have HB := Lib.hid hb; clear hb
    have HA := Lib.hid hall; clear hall
    have p8r := (hfr.cb hl1' hne1).trans p8'
    by_cases hk : k < n
    · have hks : k < cs.size := by omega
      obtain ⟨r, hr⟩ : ∃ r, r = k % 3 := ⟨_, rfl⟩
      have hr1 : (k : Int) % 3 = (r : Int) := by omega
      have hr2 : ((k : Int).tmod 3) = (r : Int) := by rw [Int.tmod_eq_emod_of_nonneg (by omega)]; exact hr1
      have hr3 : r < 3 := by omega
      have hr4 : IntKind.u8.wrap (r : Int) = (r : Int) := by
        have : r = 0 ∨ r = 1 ∨ r = 2 := by omega
        rcases this with h | h | h <;> rw [h] <;> rfl
      have hr5 : IntKind.u8.wrap (fz + (r : Int)) = ((Shf0.byteAt fi k).toNat : Int) := by rw [HFZ.out, byte_add fi r hr3]; unfold Shf0.byteAt; rw [hr]
      have hr0 : (0 : Int) ≤ r := by omega
      have HR := Lib.hid hr; clear hr
      obtain ⟨X, hX⟩ : ∃ X : Int, X = ((Shf0.byteAt fi k).toNat : Int) := ⟨_, rfl⟩
      rw [← hX] at hr5
      have HX := Lib.hid hX; clear hX
      go_wp2_with (first
        | (refine im_store1 rfl 5 _ _ rfl (v := .int .u8 X) rfl rfl rfl (by kernel_rfl) HB.out hks ?_; intro w4 b4 f4 z4; have B4 := Lib.hid b4; clear b4; clear z4))
      have hn : gk + k = n := HM.out
      go_roundg (gk - 1)
      case measure => omega
      case rel =>
        refine ⟨k + 1, _, by omega, by go_num, B4.out, by simpa using hcs, fun j hj => ?_, hfr.trans f4⟩
        by_cases hjk : j = k
        · subst hjk; rw [Array.getElem?_setIfInBounds_self_of_lt hks, HX.out]; rfl
        · rw [Array.getElem?_setIfInBounds_ne (fun e => hjk e.symm)]; exact HA.out j (by omega)
    · have hkn : k = n := by have := HM.out; omega
      go_wp2_with (first
        | (refine im_back rfl 70 9 _ rfl rfl mt70s mt5s mt9s HB.out (l := (List.range n).map (Shf0.byteAt fi)) (by simp) (fun j x hx => by
            rw [List.getElem?_map] at hx
            cases hj : (List.range n)[j]? with
            | none => simp [hj] at hx
            | some q =>
              have hq := List.getElem?_eq_some_iff.1 hj
              simp at hq
              rw [hj] at hx
              injection hx with hx
              rw [HA.out j (by omega), ← hx, hq.2]) ?_))
      go_ret
      exact ⟨rfl, f12.trans' hfr (fun _ _ h => h) (fun i hi h => by omega)⟩
end Go.Proofs.Ytmbkmfpnjpkakaa

namespace Go.Proofs.Ytmbkmfpnjpkakaa
open Go.RowKit Go.Im Go.Dsk0

/-- Some integer is answered. -/
def SomeZ (w : World) (e : Ending) (w' : World) : Prop := ∃ n : Int, e = .returned (.int .i64 n) ∧ Fr (fun _ => False) w w'
def SomeB (w : World) (e : Ending) (w' : World) : Prop := ∃ b : Bool, e = .returned (.bool b) ∧ Fr (fun _ => False) w w'

theorem rsectors_any (c : Shf0.Cfg) (w : World) : Calls Try.prog 59 #[cfgV c] w fun e w' => SomeZ w e w' := by
  obtain ⟨n0, n1, n2, n3, n4, n5⟩ := c
  unfold cfgV
  simp only
  go_enter Try.func59, Try.ntmps59
  go_wp2_with (first
    | (refine im_box rfl 23 _ rfl rfl ?_; intro w1 b1 f1 z1; have Z1 := Lib.hid z1; clear z1; obtain ⟨p0, p1, p2, p3, p4, p5⟩ := cfgA_cells (c := ⟨n0, n1, n2, n3, n4, n5⟩) b1; have hl1 := lt_of_blk b1; clear b1))
  go_ret
  exact ⟨_, rfl, f1⟩
theorem rsectors_calls (c : Shf0.Cfg) (w : World) (hv : Shf0.valid c) : Calls Try.prog 59 #[cfgV c] w fun e w' => e = .returned (.int .i64 (Shf0.sectors c)) ∧ Fr (fun _ => False) w w' := by
  obtain ⟨-, -, h3, h4, h5, h6, h7, h8⟩ := valid_bd hv
  have hs : Shf0.sectors c = c.log + 2 * c.image + c.rows := by unfold Shf0.sectors; omega
  rw [hs]
  clear hs hv
  obtain ⟨n0, n1, n2, n3, n4, n5⟩ := c
  simp only at h3 h4 h5 h6 h7 h8 ⊢
  unfold cfgV
  simp only
  go_enter Try.func59, Try.ntmps59
  go_wp2_with (first
    | (refine im_box rfl 23 _ rfl rfl ?_; intro w1 b1 f1 z1; have Z1 := Lib.hid z1; clear z1; obtain ⟨p0, p1, p2, p3, p4, p5⟩ := cfgA_cells (c := ⟨n0, n1, n2, n3, n4, n5⟩) b1; have hl1 := lt_of_blk b1; clear b1))
  go_ret
  exact ⟨rfl, f1⟩

def lowC (c : Shf0.Cfg) : Prop := c.disks ≤ 6 ∧ c.log ≤ 24 ∧ c.image ≤ 24 ∧ c.rows ≤ 24

set_option maxHeartbeats 1000000 in
theorem small_no (c : Shf0.Cfg) (w : World) (h : ¬ lowC c) : Calls Try.prog 16 #[cfgV c] w fun e w' => e = .returned (.bool false) ∧ Fr (fun _ => False) w w' := by
  obtain ⟨n0, n1, n2, n3, n4, n5⟩ := c
  unfold lowC at h
  simp only at h
  have H := Lib.hid h; clear h
  unfold cfgV
  simp only
  by_cases h0 : n0 ≤ 6
  · by_cases h1 : n4 ≤ 24
    · by_cases h2 : n5 ≤ 24
      · have h3 : ¬ n2 ≤ 24 := fun h => H.out ⟨h0, h1, h2, h⟩
        go_enter Try.func16, Try.ntmps16
        go_wp2_with (first
          | (refine im_box rfl 23 _ rfl rfl ?_; intro w1 b1 f1 z1; have Z1 := Lib.hid z1; clear z1; obtain ⟨p0, p1, p2, p3, p4, p5⟩ := cfgA_cells (c := ⟨n0, n1, n2, n3, n4, n5⟩) b1; have hl1 := lt_of_blk b1; clear b1))
        go_ret
        exact ⟨rfl, f1⟩
      · go_enter Try.func16, Try.ntmps16
        go_wp2_with (first
          | (refine im_box rfl 23 _ rfl rfl ?_; intro w1 b1 f1 z1; have Z1 := Lib.hid z1; clear z1; obtain ⟨p0, p1, p2, p3, p4, p5⟩ := cfgA_cells (c := ⟨n0, n1, n2, n3, n4, n5⟩) b1; have hl1 := lt_of_blk b1; clear b1))
        go_ret
        exact ⟨rfl, f1⟩
    · go_enter Try.func16, Try.ntmps16
      go_wp2_with (first
        | (refine im_box rfl 23 _ rfl rfl ?_; intro w1 b1 f1 z1; have Z1 := Lib.hid z1; clear z1; obtain ⟨p0, p1, p2, p3, p4, p5⟩ := cfgA_cells (c := ⟨n0, n1, n2, n3, n4, n5⟩) b1; have hl1 := lt_of_blk b1; clear b1))
      go_ret
      exact ⟨rfl, f1⟩
  · go_enter Try.func16, Try.ntmps16
    go_wp2_with (first
      | (refine im_box rfl 23 _ rfl rfl ?_; intro w1 b1 f1 z1; have Z1 := Lib.hid z1; clear z1; obtain ⟨p0, p1, p2, p3, p4, p5⟩ := cfgA_cells (c := ⟨n0, n1, n2, n3, n4, n5⟩) b1; have hl1 := lt_of_blk b1; clear b1))
    go_ret
    exact ⟨rfl, f1⟩

set_option maxHeartbeats 1000000 in
theorem small_by (c : Shf0.Cfg) (w : World) (h : lowC c) (n : Int) (hn : ∀ W, Fr (fun _ => False) w W → Calls Try.prog 59 #[cfgV c] W fun e w' => e = .returned (.int .i64 n) ∧ Fr (fun _ => False) W w') : Calls Try.prog 16 #[cfgV c] w fun e w' => e = .returned (.bool (decide (n ≤ 24))) ∧ Fr (fun _ => False) w w' := by
  obtain ⟨n0, n1, n2, n3, n4, n5⟩ := c
  obtain ⟨h0, h1, h2, h3⟩ := h
  simp only at h0 h1 h2 h3
  have HN := Lib.hid hn; clear hn
  unfold cfgV at HN ⊢
  simp only at HN ⊢
  go_enter Try.func16, Try.ntmps16
  go_wp2_with (first
    | (refine im_box rfl 23 _ rfl rfl ?_; intro w1 b1 f1 z1; have Z1 := Lib.hid z1; clear z1; obtain ⟨p0, p1, p2, p3, p4, p5⟩ := cfgA_cells (c := ⟨n0, n1, n2, n3, n4, n5⟩) b1; have hl1 := lt_of_blk b1; clear b1))
  refine (HN.out w1 f1).mono ?_; rintro e w2 ⟨rfl, f2⟩
  go_wp2_with fail
  go_ret
  exact ⟨rfl, f1.trans f2⟩

/-- Small, of a valid configuration; of any. -/
theorem small_calls (c : Shf0.Cfg) (w : World) (hv : Shf0.valid c) : Calls Try.prog 16 #[cfgV c] w fun e w' => e = .returned (.bool (Shf0.small c)) ∧ Fr (fun _ => False) w w' := by
  by_cases h : lowC c
  · have : Shf0.small c = decide (Shf0.sectors c ≤ 24) := by
      obtain ⟨h0, h1, h2, h3⟩ := h
      unfold Shf0.small; simp [h0, h1, h2, h3]
    rw [this]
    exact small_by c w h _ fun W _ => rsectors_calls c W hv
  · have : Shf0.small c = false := by
      unfold Shf0.small
      exact decide_eq_false fun h' => h ⟨h'.1, h'.2.1, h'.2.2.1, h'.2.2.2.1⟩
    rw [this]
    exact small_no c w h

set_option maxHeartbeats 1000000 in
theorem small_some (c : Shf0.Cfg) (w : World) : Calls Try.prog 16 #[cfgV c] w fun e w' => SomeB w e w' := by
  by_cases h : lowC c
  · have hn := fun W => rsectors_any c W
    obtain ⟨n0, n1, n2, n3, n4, n5⟩ := c
    obtain ⟨h0, h1, h2, h3⟩ := h
    simp only at h0 h1 h2 h3
    have HN := Lib.hid hn; clear hn
    unfold cfgV at HN ⊢
    simp only at HN ⊢
    go_enter Try.func16, Try.ntmps16
    go_wp2_with (first
      | (refine im_box rfl 23 _ rfl rfl ?_; intro w1 b1 f1 z1; have Z1 := Lib.hid z1; clear z1; obtain ⟨p0, p1, p2, p3, p4, p5⟩ := cfgA_cells (c := ⟨n0, n1, n2, n3, n4, n5⟩) b1; have hl1 := lt_of_blk b1; clear b1))
    refine (HN.out w1).mono ?_; rintro e w2 ⟨n, rfl, f2⟩
    go_wp2_with fail
    go_ret
    exact ⟨_, rfl, f1.trans f2⟩
  · exact (small_no c w h).mono fun e w' ⟨he, hf⟩ => ⟨false, he, hf⟩

/-- What built answers without a script. -/
def Built0 (c : Shf0.Cfg) (w : World) (e : Ending) (w' : World) : Prop :=
  (¬ (Shf0.valid c ∧ Shf0.small c = true) ∧ e = .returned (.tuple #[.pointer none, .bool false]) ∧ Fr (fun _ => False) w w') ∨
  (Shf0.valid c ∧ Shf0.small c = true ∧ ∃ s : Nat, e = .returned (.tuple #[.pointer (some ⟨s, 0, none⟩), .bool true]) ∧ ShelfAt w' (fun q => w.heap.size ≤ q ∧ q < w'.heap.size) s (Shf0.newS c) ∧ Fr (fun _ => False) w w')

theorem small_sec {c : Shf0.Cfg} (h : Shf0.small c = true) : Shf0.sectors c ≤ 65536 := by
  unfold Shf0.small at h
  have := (of_decide_eq_true h).2.2.2.2
  omega

set_option maxRecDepth 100000 in
set_option maxHeartbeats 1000000 in
theorem built0_calls (c : Shf0.Cfg) (w : World) : Calls Try.prog 45 #[cfgV c, .slice none 0 0] w fun e w' => Built0 c w e w' := by
  by_cases hv : Shf0.valid c
  · cases hsm : Shf0.small c with
    | false =>
      have hs := fun W => small_calls c W hv
      rw [hsm] at hs
      have hno : ¬ (Shf0.valid c ∧ Shf0.small c = true) := fun h => by rw [hsm] at h; exact absurd h.2 (by simp)
      have HNO := Lib.hid hno
      have HS := Lib.hid hs
      clear hs hno hsm hv
      have hc : ∃ A, A = cfgV c := ⟨_, rfl⟩
      unfold cfgV at HS ⊢
      clear hc
      go_enter Try.func45, Try.ntmps45
      go_wp2_with (first
        | (refine im_box rfl 23 _ rfl rfl ?_; intro w1 b1 f1 z1; have Z1 := Lib.hid z1; clear z1; obtain ⟨p0, p1, p2, p3, p4, p5⟩ := cfgA_cells (c := c) b1; have hl1 := lt_of_blk b1; clear b1))
      refine (HS.out w1).mono ?_; rintro e w2 ⟨rfl, f2⟩
      go_wp2_with fail
      go_ret2
      exact .inl ⟨HNO.out, rfl, f1.trans f2⟩
    | true =>
      have hs := fun W => small_calls c W hv
      rw [hsm] at hs
      have hnw := fun W => snew_ok c W hv (small_sec hsm)
      have HV := Lib.hid (And.intro hv hsm)
      have HS := Lib.hid hs
      have HNW := Lib.hid hnw
      clear hs hnw hsm hv
      unfold cfgV at HS HNW ⊢
      go_enter Try.func45, Try.ntmps45
      go_wp2_with (first
        | (refine im_box rfl 23 _ rfl rfl ?_; intro w1 b1 f1 z1; have Z1 := Lib.hid z1; clear z1; obtain ⟨p0, p1, p2, p3, p4, p5⟩ := cfgA_cells (c := c) b1; have hl1 := lt_of_blk b1; clear b1))
      refine (HS.out w1).mono ?_; rintro e w2 ⟨rfl, f2⟩
      have q0 := (f2.cb hl1 (fun h => h)).trans p0
      have q1 := (f2.cb hl1 (fun h => h)).trans p1
      have q2 := (f2.cb hl1 (fun h => h)).trans p2
      have q3 := (f2.cb hl1 (fun h => h)).trans p3
      have q4 := (f2.cb hl1 (fun h => h)).trans p4
      have q5 := (f2.cb hl1 (fun h => h)).trans p5
      clear p0 p1 p2 p3 p4 p5
      go_wp2_with fail
      refine (HNW.out w2).mono ?_; rintro e w3 ⟨s, rfl, h3, f3⟩
      have f12 := f1.trans f2
      have hsz := f12.size
      have H3 := Lib.hid (h3.mono (O' := fun q => w.heap.size ≤ q ∧ q < w3.heap.size) (fun q hq => ⟨by omega, hq.2⟩) (fun q hq => hq.2)); clear h3
      have F3 := Lib.hid (f12.trans f3)
      clear f3 f12 f2 f1
      go_wp2_with fail
      go_loopg [8] 0 (fun m t wr => t = .int .i64 0 ∧ w3 = wr)
      case atStart => exact ⟨rfl, rfl⟩
      case round =>
        obtain ⟨rfl, rfl⟩ := hrel
        go_wp2_with fail
        go_ret2
        exact .inr ⟨HV.out.1, HV.out.2, s, rfl, H3.out, F3.out⟩
  · have hs := fun W => small_some c W
    have hnw := fun W => snew_bad c W hv
    have hno : ¬ (Shf0.valid c ∧ Shf0.small c = true) := fun h => hv h.1
    have HNO := Lib.hid hno
    have HS := Lib.hid hs
    have HNW := Lib.hid hnw
    clear hs hnw hno hv
    unfold cfgV at HS HNW ⊢
    go_enter Try.func45, Try.ntmps45
    go_wp2_with (first
      | (refine im_box rfl 23 _ rfl rfl ?_; intro w1 b1 f1 z1; have Z1 := Lib.hid z1; clear z1; obtain ⟨p0, p1, p2, p3, p4, p5⟩ := cfgA_cells (c := c) b1; have hl1 := lt_of_blk b1; clear b1))
    refine (HS.out w1).mono ?_; rintro e w2 ⟨b, rfl, f2⟩
    have q0 := (f2.cb hl1 (fun h => h)).trans p0
    have q1 := (f2.cb hl1 (fun h => h)).trans p1
    have q2 := (f2.cb hl1 (fun h => h)).trans p2
    have q3 := (f2.cb hl1 (fun h => h)).trans p3
    have q4 := (f2.cb hl1 (fun h => h)).trans p4
    have q5 := (f2.cb hl1 (fun h => h)).trans p5
    clear p0 p1 p2 p3 p4 p5
    cases b
    · go_wp2_with fail
      go_ret2
      exact .inl ⟨HNO.out, rfl, f1.trans f2⟩
    · go_wp2_with fail
      refine (HNW.out w2).mono ?_; rintro e w3 ⟨rfl, f3⟩
      go_wp2_with fail
      go_ret2
      exact .inl ⟨HNO.out, rfl, (f1.trans f2).trans f3⟩
end Go.Proofs.Ytmbkmfpnjpkakaa

namespace Go.Dsk0

theorem only_mem {l : List Nat} {n : Nat} (hd : l.Nodup) (h : ∀ x, x ∈ l ↔ x = n) : l = [n] := by
  match l, hd with
  | [], _ => exact absurd ((h n).2 rfl) (by simp)
  | x :: t, hd =>
    have hx : x = n := (h x).1 (by simp)
    subst hx
    obtain ⟨h1, -⟩ := List.nodup_cons.1 hd
    cases t with
    | nil => rfl
    | cons y t =>
      have hy : y = x := (h y).1 (by simp)
      exact absurd (by simp [hy]) h1

/-- A write where no fault is armed. -/
theorem write_free {D : Dsk} {i : Nat} {s : Sec} {l : List UInt8} (hs : D[i]? = some s) (hf : s.flt = none) (hl : l.length = 64) : write D i l = (0, setc (clr D i) i l) := by
  have hi := (List.getElem?_eq_some_iff.1 hs).1
  have hg : goal D i = i := by unfold goal; rw [Int.toNat_natCast, hs]; simp [hf]
  unfold write
  rw [if_pos ⟨has_iff.2 ⟨by omega, by omega⟩, hl⟩, hg, if_neg (by omega), Int.toNat_natCast]
theorem setc_get {D : Dsk} {i : Nat} {s : Sec} {l : List UInt8} (hs : D[i]? = some s) (k : Nat) : (setc (clr D i) i l)[k]? = if i = k then some ⟨s.dur, some l, none⟩ else D[k]? := by
  unfold setc clr
  rw [List.getElem?_modify, List.getElem?_modify]
  by_cases h : i = k
  · subst h; simp [hs]
  · cases D[k]? <;> simp [h]

/-- A sector written and flushed, written again, and the power cut. -/
theorem torn {N num : Nat} (h : num < N) (hN : N ≤ 65536) {a b : List UInt8} (ha : a.length = 64) (hb : b.length = 64) (pick : Int) :
    (write (new N) num a).1 = 0 ∧ (write (flush (write (new N) num a).2) num b).1 = 0 ∧ pend (write (flush (write (new N) num a).2) num b).2 = [num] ∧
      read (cut (write (flush (write (new N) num a).2) num b).2 [pick]) num = (b.take (clamp pick) ++ a.drop (clamp pick), 0) := by
  have hn : new (N : Int) = List.replicate N ⟨zeros, none, none⟩ := by unfold new; congr 1; omega
  have h0 : (new (N : Int))[num]? = some ⟨zeros, none, none⟩ := by rw [hn, List.getElem?_replicate, if_pos h]
  have e1 := write_free h0 rfl ha
  rw [e1]
  have h1 : ∀ k, (flush (setc (clr (new N) num) num a))[k]? = if num = k then some ⟨a, none, none⟩ else if k < N then some ⟨zeros, none, none⟩ else none := fun k => by
    unfold flush
    rw [List.getElem?_map, setc_get h0]
    by_cases hk : num = k
    · simp [hk, cont]
    · rw [if_neg hk, if_neg hk, hn, List.getElem?_replicate]
      split <;> simp [cont]
  have h2 : (flush (setc (clr (new N) num) num a))[num]? = some ⟨a, none, none⟩ := by rw [h1, if_pos rfl]
  have e2 := write_free h2 rfl hb
  simp only
  rw [e2]
  have h3 : ∀ k, (setc (clr (flush (setc (clr (new N) num) num a)) num) num b)[k]? = if num = k then some ⟨a, some b, none⟩ else if k < N then some ⟨zeros, none, none⟩ else none := fun k => by
    rw [setc_get h2]
    by_cases hk : num = k
    · simp [hk]
    · rw [if_neg hk, if_neg hk, h1, if_neg hk]
  have hp : pend (setc (clr (flush (setc (clr (new N) num) num a)) num) num b) = [num] := by
    refine only_mem (pend_nodup _) fun x => ?_
    rw [pend_mem]
    constructor
    · rintro ⟨s, l, hs, hl⟩
      rw [h3] at hs
      by_cases hx : num = x
      · exact hx.symm
      · rw [if_neg hx] at hs
        split at hs
        · injection hs with hs; subst hs; cases hl
        · cases hs
    · rintro rfl
      exact ⟨_, b, by rw [h3, if_pos rfl], rfl⟩
  refine ⟨by trivial, by trivial, hp, ?_⟩
  have hc : (cut (setc (clr (flush (setc (clr (new N) num) num a)) num) num b) [pick])[num]? = some ⟨b.take (clamp pick) ++ a.drop (clamp pick), none, none⟩ := by
    unfold cut unarm
    rw [hp, List.getElem?_map]
    unfold settle settle
    rw [List.getElem?_modify, h3, if_pos rfl]
    simp [cutOne]
  have hlt := (List.getElem?_eq_some_iff.1 hc).1
  unfold read
  rw [if_pos (has_iff.2 ⟨by omega, Int.ofNat_lt.2 hlt⟩), Int.toNat_natCast, hc]
  simp [cont]
end Go.Dsk0
namespace Go.Shf0
open Go.Dsk0

theorem state_turn (S : Shelf) (k : Nat) (F : Dsk → Dsk) (d : Int) : state (turnD S k F) d = state S d := by
  unfold state turnD
  simp only [List.length_modify, List.getElem?_modify]
  split
  · cases S.bays[d.toNat]? with
    | none => rfl
    | some b => by_cases h : k = d.toNat <;> simp [h]
  · rfl
theorem bayD_turn {S : Shelf} {k : Nat} (h : k < S.bays.length) (F : Dsk → Dsk) : bayD (turnD S k F) k = F (bayD S k) := by
  unfold bayD turnD
  simp only [List.getElem?_modify]
  rw [List.getElem?_eq_getElem h]
  simp
theorem there_turn (S : Shelf) (k : Nat) (F : Dsk → Dsk) (p : Place) : there (turnD S k F) p ↔ there S p := by
  unfold there; rw [state_turn]; rfl
theorem number_turn (S : Shelf) (k : Nat) (F : Dsk → Dsk) (p : Place) : number (turnD S k F) p = number S p := by
  unfold number
  by_cases h : there S p
  · rw [if_pos h, if_pos ((there_turn S k F p).2 h)]; rfl
  · rw [if_neg h, if_neg fun h' => h ((there_turn S k F p).1 h')]
/-- A step where the power is on, no fuse burns and the bay is in service. -/
theorem step_plain {S : Shelf} (ho : S.off = false) (hf : S.fused = false) {d : Int} (hs : state S d = 1) (F : Dsk → Dsk) : step S d F = (0, turnD S d.toNat F) := by
  have ha : access S d = 0 := by unfold access; rw [ho, hs]; simp
  unfold step
  rw [ha, hf]; simp
theorem cutBays_len : ∀ (l : List Bay) (ps : List Int), (cutBays l ps).length = l.length
  | [], _ => rfl
  | b :: l, ps => by
    unfold cutBays
    split <;> simp [cutBays_len l]
theorem cutBays_get : ∀ (l : List Bay) (k : Nat) (ps : List Int) (b : Bay), l[k]? = some b → b.st = 1 → (∀ j x, j < k → l[j]? = some x → pend x.D = []) → (cutBays l ps)[k]? = some { b with D := cut b.D (ps.take (pend b.D).length) }
  | [], _, _, _, h, _, _ => by simp at h
  | x :: l, 0, ps, b, h, hs, _ => by
    have e : x = b := by simpa using h
    subst e
    unfold cutBays
    rw [if_pos hs]; rfl
  | x :: l, k + 1, ps, b, h, hs, hp => by
    have h' : l[k]? = some b := by simpa using h
    have hx : pend x.D = [] := hp 0 x (by omega) rfl
    have hrest : ∀ j y, j < k → l[j]? = some y → pend y.D = [] := fun j y hj hy => hp (j + 1) y (by omega) (by simpa using hy)
    unfold cutBays
    split
    · rw [List.getElem?_cons_succ, hx]
      simpa using cutBays_get l k ps b h' hs hrest
    · rw [List.getElem?_cons_succ]
      exact cutBays_get l k ps b h' hs hrest
theorem cutBays_st : ∀ (l : List Bay) (ps : List Int), (cutBays l ps).map (·.st) = l.map (·.st)
  | [], _ => rfl
  | b :: l, ps => by
    unfold cutBays
    split <;> simp [cutBays_st l]
theorem state_mount (S : Shelf) (ps : List Int) (d : Int) : state (mount S ps) d = state S d := by
  have h : ∀ i : Nat, ((cutBays S.bays ps)[i]?).map (fun x : Bay => x.st) = (S.bays[i]?).map (fun x : Bay => x.st) := fun i => by
    rw [← List.getElem?_map, ← List.getElem?_map, cutBays_st]
  unfold state mount
  simp only [cutBays_len, h]
theorem there_mount (S : Shelf) (ps : List Int) (p : Place) : there (mount S ps) p ↔ there S p := by
  unfold there; rw [state_mount]; rfl
theorem number_mount (S : Shelf) (ps : List Int) (p : Place) : number (mount S ps) p = number S p := by
  unfold number
  by_cases h : there S p
  · rw [if_pos h, if_pos ((there_mount S ps p).2 h)]; rfl
  · rw [if_neg h, if_neg fun h' => h ((there_mount S ps p).1 h')]
end Go.Shf0

namespace Go.Shf0
open Go.Dsk0

theorem newS_bay {c : Cfg} (_ : valid c) {k : Nat} (h : k < (newS c).bays.length) : (newS c).bays[k]? = some ⟨new (sectors c), 1⟩ := by
  unfold newS at h ⊢
  simp only [List.length_replicate] at h
  rw [List.getElem?_replicate, if_pos h]
theorem newS_state {c : Cfg} (hv : valid c) {d : Int} (h : state (newS c) d ≠ 0) : state (newS c) d = 1 := by
  obtain ⟨h0, h1⟩ := state_ne h
  unfold state
  rw [if_pos ⟨h0, h1⟩, newS_bay hv (by omega)]; rfl
theorem newS_ok {c : Cfg} (hv : valid c) (hs : sectors c ≤ 65536) : Ok (newS c) := by
  have hv' := hv
  obtain ⟨⟨d1, d2⟩, -, ⟨r1, r2⟩, -, ⟨l1, l2⟩, ⟨m1, m2⟩, -⟩ := hv
  have hsp : 0 ≤ sectors c := by unfold sectors; omega
  have hall : ∀ b ∈ (newS c).bays, b = ⟨new (sectors c), 1⟩ := fun b hb => (List.mem_replicate.1 hb).2
  have hnl : ((new (sectors c)).length : Int) = sectors c := by simp [new]; omega
  exact ⟨hv', hs, by simp [newS], fun b hb => by rw [hall b hb]; exact Dsk0.Ok.new _, fun b hb _ => by rw [hall b hb]; exact hnl, fun b hb => .inl (by rw [hall b hb]), fun D hD => by cases hD⟩
theorem new_pend (n : Int) : pend (new n) = [] := by
  apply List.eq_nil_iff_forall_not_mem.2
  intro x hx
  obtain ⟨s, l, hs, hl⟩ := pend_mem.1 hx
  unfold new at hs
  rw [List.getElem?_replicate] at hs
  split at hs
  · injection hs with hs; subst hs; cases hl
  · cases hs

theorem turn_other (S : Shelf) {k j : Nat} (F : Dsk → Dsk) (h : k ≠ j) : (turnD S k F).bays[j]? = S.bays[j]? := by
  unfold turnD
  simp only [List.getElem?_modify]
  cases S.bays[j]? <;> simp [h]

/-- A sector of a new shelf written and flushed, written again, and the power cut. -/
theorem torn {c : Cfg} (hv : valid c) (hs : sectors c ≤ 65536) {p : Place} (ht : there (newS c) p) {a b : List UInt8} (ha : a.length = 64) (hb : b.length = 64) (pick : Int) :
    (write (newS c) p a).1 = 0 ∧ (flush (write (newS c) p a).2 p.disk).1 = 0 ∧ (write (flush (write (newS c) p a).2 p.disk).2 p b).1 = 0 ∧
      read (mount (write (flush (write (newS c) p a).2 p.disk).2 p b).2 [pick]) p = (b.take (clamp pick) ++ a.drop (clamp pick), 0) := by
  have hst := newS_state hv ht.1
  have hok := newS_ok hv hs
  obtain ⟨hn0, hn1⟩ := number_bd hok ht
  obtain ⟨hd0, hd1⟩ := there_disk ht
  obtain ⟨num, hnum⟩ : ∃ num : Nat, number (newS c) p = num := ⟨(number (newS c) p).toNat, by omega⟩
  obtain ⟨k, hk⟩ : ∃ k : Nat, p.disk = k := ⟨p.disk.toNat, by omega⟩
  have hkl : k < (newS c).bays.length := by omega
  have hcfg : (newS c).cfg = c := rfl
  obtain ⟨N, hN⟩ : ∃ N : Nat, sectors c = N := ⟨(sectors c).toNat, by rw [hcfg] at hn1; omega⟩
  rw [hcfg] at hn1
  have hbay : bayD (newS c) k = new N := by unfold bayD; rw [newS_bay hv hkl, ← hN]; rfl
  obtain ⟨t1, t2, t3, t4⟩ := Dsk0.torn (N := N) (num := num) (by omega) (by omega) ha hb pick
  -- the first write
  have e1 : write (newS c) p a = (0, turnD (newS c) k fun D => (Dsk0.write D num a).2) := by
    unfold write
    rw [if_pos ⟨ht, ha⟩, step_plain rfl rfl hst, hnum, hk, Int.toNat_natCast]
  rw [e1]
  simp only
  obtain ⟨S1, hS1⟩ : ∃ S1, S1 = turnD (newS c) k fun D => (Dsk0.write D num a).2 := ⟨_, rfl⟩
  have hl1 : S1.bays.length = (newS c).bays.length := by rw [hS1]; simp [turnD]
  have s1 : ∀ d, state S1 d = state (newS c) d := fun d => by rw [hS1, state_turn]
  have o1 : S1.off = false ∧ S1.fused = false := by rw [hS1]; exact ⟨rfl, rfl⟩
  have b1 : bayD S1 k = (Dsk0.write (new N) num a).2 := by rw [hS1, bayD_turn hkl, hbay]
  rw [← hS1]
  -- the flush
  have e2 : flush S1 p.disk = (0, turnD S1 k Dsk0.flush) := by
    unfold flush
    rw [if_neg (by rw [s1, hst]; decide), step_plain o1.1 o1.2 (by rw [s1]; exact hst), hk, Int.toNat_natCast]
  rw [e2]
  simp only
  obtain ⟨S2, hS2⟩ : ∃ S2, S2 = turnD S1 k Dsk0.flush := ⟨_, rfl⟩
  have hl2 : S2.bays.length = (newS c).bays.length := by rw [hS2, ← hl1]; simp [turnD]
  have s2 : ∀ d, state S2 d = state (newS c) d := fun d => by rw [hS2, state_turn, s1]
  have o2 : S2.off = false ∧ S2.fused = false := by rw [hS2]; exact o1
  have b2 : bayD S2 k = Dsk0.flush (Dsk0.write (new N) num a).2 := by rw [hS2, bayD_turn (by omega), b1]
  have th2 : there S2 p := by rw [hS2, there_turn, hS1, there_turn]; exact ht
  have nu2 : number S2 p = num := by rw [hS2, number_turn, hS1, number_turn, hnum]
  rw [← hS2]
  -- the second write
  have e3 : write S2 p b = (0, turnD S2 k fun D => (Dsk0.write D num b).2) := by
    unfold write
    rw [if_pos ⟨th2, hb⟩, step_plain o2.1 o2.2 (by rw [s2]; exact hst), nu2, hk, Int.toNat_natCast]
  rw [e3]
  simp only
  obtain ⟨S3, hS3⟩ : ∃ S3, S3 = turnD S2 k fun D => (Dsk0.write D num b).2 := ⟨_, rfl⟩
  rw [← hS3]
  have hl3 : S3.bays.length = (newS c).bays.length := by rw [hS3, ← hl2]; simp [turnD]
  have s3 : ∀ d, state S3 d = state (newS c) d := fun d => by rw [hS3, state_turn, s2]
  have b3 : bayD S3 k = (Dsk0.write (Dsk0.flush (Dsk0.write (new N) num a).2) num b).2 := by rw [hS3, bayD_turn (by omega), b2]
  have th3 : there S3 p := by rw [hS3, there_turn]; exact th2
  have nu3 : number S3 p = num := by rw [hS3, number_turn, nu2]
  refine ⟨by trivial, by trivial, by trivial, ?_⟩
  -- the cut
  obtain ⟨x3, hx3⟩ : ∃ x3, S3.bays[k]? = some x3 := ⟨_, List.getElem?_eq_getElem (by omega)⟩
  have hx3D : x3.D = (Dsk0.write (Dsk0.flush (Dsk0.write (new N) num a).2) num b).2 := by
    have := b3
    unfold bayD at this
    rw [hx3] at this
    exact this
  have hx3s : x3.st = 1 := by
    have := s3 k
    rw [← hk, hst] at this
    unfold state at this
    rw [if_pos ⟨hd0, by omega⟩, hk, Int.toNat_natCast, hx3] at this
    exact this
  have hother : ∀ j x, j < k → S3.bays[j]? = some x → pend x.D = [] := fun j x hj hx => by
    have h0 : S3.bays[j]? = (newS c).bays[j]? := by
      rw [hS3, turn_other S2 _ (by omega), hS2, turn_other S1 _ (by omega), hS1, turn_other (newS c) _ (by omega)]
    rw [h0] at hx
    have hjl := (List.getElem?_eq_some_iff.1 hx).1
    rw [newS_bay hv hjl] at hx
    have hxD : x.D = new (sectors c) := (congrArg Bay.D (Option.some.inj hx)).symm
    rw [hxD]
    exact new_pend (sectors c)
  have hcut := cutBays_get S3.bays k [pick] x3 hx3 hx3s hother
  have hbm : bayD (mount S3 [pick]) k = cut x3.D [pick] := by
    unfold bayD mount
    simp only
    rw [hcut, hx3D, t3]
    simp
  have thm : there (mount S3 [pick]) p := by rw [there_mount]; exact th3
  have acc : access (mount S3 [pick]) p.disk = 0 := by
    unfold access
    rw [state_mount, s3, hst]
    rfl
  unfold read
  rw [if_pos thm, if_neg (by rw [acc]; simp), hk, Int.toNat_natCast, hbm, number_mount, nu3, hx3D]
  exact t4

/-- A write outside the shelf. -/
theorem write_out {S : Shelf} {p : Place} (h : ¬ there S p) (l : List UInt8) : write S p l = (1, S) := by
  unfold write; rw [if_neg fun h' => h h'.1]
end Go.Shf0

namespace Go.Proofs.Ytmbkmfpnjpkakaa
open Go.ChangeShapes Go.WideShapes Go.ChangeAt Go.RowKit Go.Im Go.Dsk0

theorem f23 : fieldsOf Try.prog 23 = some [(3, 0), (3, 1), (3, 2), (3, 3), (3, 4), (3, 5)] := by kernel_rfl
theorem f25 : fieldsOf Try.prog 25 = some [(3, 0), (3, 1), (3, 2)] := by kernel_rfl
theorem cl23 : Try.prog.cellsOf 23 = 6 := by kernel_rfl
theorem cl25 : Try.prog.cellsOf 25 = 3 := by kernel_rfl

section
variable {H : Type} {enc : TypeId × Value → H} {w : World}
/-- An integer field. -/
theorem int_field {base : Nat} {spare : Nat → Bool} {held : Bool} {fuel : Nat} {l : List Value} {off : Nat} {y : DataW H × List MemPlace} (h : DataW.trod enc Try.prog w base spare held fuel 3 ((l.drop off).take (Try.prog.cellsOf 3)) = some y) : ∃ n : Int, l[off]? = some (.int .i64 n) := by
  obtain ⟨n, e, -, -⟩ := DataW.trod_int opTypes.u3 h
  rw [opTypes.c3] at e
  refine ⟨n, ?_⟩
  have : ((l.drop off).take 1)[0]? = some (.int .i64 n) := by rw [e]; rfl
  rw [List.getElem?_take_of_lt (by omega), List.getElem?_drop] at this
  simpa using this
theorem u8_field {base : Nat} {spare : Nat → Bool} {held : Bool} {fuel : Nat} {l : List Value} {off : Nat} {y : DataW H × List MemPlace} (h : DataW.trod enc Try.prog w base spare held fuel 5 ((l.drop off).take (Try.prog.cellsOf 5)) = some y) : ∃ x : UInt8, l[off]? = some (B x) := by
  obtain ⟨n, e, -, hw⟩ := DataW.trod_int opTypes.u5 h
  rw [opTypes.c5] at e
  obtain ⟨x, hx⟩ := u8_B hw
  refine ⟨x, ?_⟩
  have : ((l.drop off).take 1)[0]? = some (.int .u8 n) := by rw [e]; rfl
  rw [List.getElem?_take_of_lt (by omega), List.getElem?_drop] at this
  rw [← hx]
  simpa using this
theorem sub_at {l : List Value} {off n i : Nat} {v : Value} (h : (((l.drop off).take n))[i]? = some v) : l[off + i]? = some v := by
  rw [List.getElem?_take] at h
  split at h
  · rwa [List.getElem?_drop] at h
  · cases h
/-- A configuration among cells. -/
theorem cfg_field {base : Nat} {spare : Nat → Bool} {held : Bool} {fuel : Nat} {l : List Value} {off : Nat} {y : DataW H × List MemPlace} (h : DataW.trod enc Try.prog w base spare held fuel 23 ((l.drop off).take (Try.prog.cellsOf 23)) = some y) : ∃ c : Shf0.Cfg, ∀ i, i < 6 → l[off + i]? = (cfgA c)[i]? := by
  obtain ⟨-, n, hf⟩ := field_trod f23 h
  obtain ⟨y0, h0⟩ := hf 0 3 0 rfl
  obtain ⟨y1, h1⟩ := hf 1 3 1 rfl
  obtain ⟨y2, h2⟩ := hf 2 3 2 rfl
  obtain ⟨y3, h3⟩ := hf 3 3 3 rfl
  obtain ⟨y4, h4⟩ := hf 4 3 4 rfl
  obtain ⟨y5, h5⟩ := hf 5 3 5 rfl
  obtain ⟨n0, e0⟩ := int_field h0
  obtain ⟨n1, e1⟩ := int_field h1
  obtain ⟨n2, e2⟩ := int_field h2
  obtain ⟨n3, e3⟩ := int_field h3
  obtain ⟨n4, e4⟩ := int_field h4
  obtain ⟨n5, e5⟩ := int_field h5
  refine ⟨⟨n0, n1, n2, n3, n4, n5⟩, fun i hi => ?_⟩
  have : i = 0 ∨ i = 1 ∨ i = 2 ∨ i = 3 ∨ i = 4 ∨ i = 5 := by omega
  rcases this with rfl | rfl | rfl | rfl | rfl | rfl
  · exact sub_at e0
  · exact sub_at e1
  · exact sub_at e2
  · exact sub_at e3
  · exact sub_at e4
  · exact sub_at e5
theorem plc_field {base : Nat} {spare : Nat → Bool} {held : Bool} {fuel : Nat} {l : List Value} {off : Nat} {y : DataW H × List MemPlace} (h : DataW.trod enc Try.prog w base spare held fuel 25 ((l.drop off).take (Try.prog.cellsOf 25)) = some y) : ∃ p : Shf0.Place, ∀ i, i < 3 → l[off + i]? = (plcA p)[i]? := by
  obtain ⟨-, n, hf⟩ := field_trod f25 h
  obtain ⟨y0, h0⟩ := hf 0 3 0 rfl
  obtain ⟨y1, h1⟩ := hf 1 3 1 rfl
  obtain ⟨y2, h2⟩ := hf 2 3 2 rfl
  obtain ⟨n0, e0⟩ := int_field h0
  obtain ⟨n1, e1⟩ := int_field h1
  obtain ⟨n2, e2⟩ := int_field h2
  refine ⟨⟨n0, n1, n2⟩, fun i hi => ?_⟩
  have : i = 0 ∨ i = 1 ∨ i = 2 := by omega
  rcases this with rfl | rfl | rfl
  · exact sub_at e0
  · exact sub_at e1
  · exact sub_at e2
end
end Go.Proofs.Ytmbkmfpnjpkakaa
