/- The shelf laws' sanity example answers true. -/
import Derived.Test.YtmbkmfpnjpkakaaS16
import Derived.Test.YtmbkmfpnjpkakaaL2
namespace Go.Im
open Go
section
variable {P : Program} {Q : Exit → Act → World → Prop} {o : Oper} {a : Act} {w : World} {K : Act → World → Prop}
/-- A new slice of n zero elements, inside a region. -/
theorem wp_makeS (t : TypeId) (l c : Operand) (hop : o.op = Op.makeSlice t l c) {e : TypeId} (ht : P.underlying t = some (.slice e))
    {i : TypeInfo} (hi : P.info? e = some i) {z : Value} (hz : i.zero = some z) (n : Nat) {L C : Int} (hl : a.eval l = .int .i64 L) (hc : a.eval c = .int .i64 C) (hL : L = n) (hC : C = n) (hb : i.bytes * n ≤ 281474976710656) (hn : n ≤ 9223372036854775807)
    (hK : ∀ w', w'.heap[w.heap.size]? = some (.cells (madeCells z.cells (n * i.size)) e (0, 0)) → Fr (fun _ => False) w w' → w'.heap.size = w.heap.size + 1 → K (a.put o.dst (.slice (some ⟨w.heap.size, 0, none⟩) n n)) w') :
    o.wp P a w K Q := by
  subst hL; subst hC
  have hrun := run_make (P := P) w t e i z ht hi hz .i64 .i64 n n (by omega) (Int.le_refl _) (by
    have : ((i.bytes * n : Nat) : Int) ≤ 281474976710656 := by omega
    rwa [Int.natCast_mul] at this) (by omega)
  simp only [Int.toNat_natCast] at hrun
  unfold Oper.wp
  simp only [execOp, hop, hl, hc, Sem.run_bind, hrun, Result.andThen_ok, Sem.run_pure]
  exact hK _ (heap_alloc_new w _) ((Fr.refl _ _).alloc _) (by simp)
theorem wp_back (src dst : TypeId) (x : Operand) (hop : o.op = Op.convert src dst x) {b n cap : Nat} (hx : a.eval x = .slice (some ⟨b, 0, none⟩) n cap) {e : TypeId}
    (hs : P.underlying src = some (.slice e)) (he : P.underlying e = some (.int .u8)) (hd : P.underlying dst = some .string) {l : List UInt8} {t : TypeId} {fr : Nat × Nat} {cs : Array Value} (hb : w.heap[b]? = some (.cells cs t fr)) (hl : l.length = n) (hcs : ∀ (j : Nat) (x : UInt8), l[j]? = some x → cs[j]? = some (B x))
    (hK : K (a.put o.dst (.string ⟨l.toArray⟩)) w) : o.wp P a w K Q := by
  subst hl
  have hrun := run_convert_bytes_back (P := P) w src dst e ⟨b, 0, none⟩ cap l hs he hd (fun j hj => by
    rw [Addr.add_mid, Nat.zero_add, cell_of_blk hb]
    exact hcs j _ (List.getElem?_eq_getElem hj))
  unfold Oper.wp
  simp only [execOp, hop, hx, Sem.run_bind, hrun, Result.andThen_ok, Sem.run_pure]
  exact hK
end
end Go.Im
namespace Go.Proofs.Ytmbkmfpnjpkakaa
open Go.RowKit Go.Im Go.Dsk0

def cfg0 : Shf0.Cfg := ⟨2, 1, 3, 0, 1, 1⟩
def z64S : ByteArray := ⟨zeros.toArray⟩
theorem z64S_list : z64S.data.toList = zeros := rfl
theorem zero25 (w : World) : (zeroValue 25).run Try.prog w = .ok (.agg #[.int .i64 0, .int .i64 0, .int .i64 0]) w := by kernel_rfl
theorem info25 : (Try.prog.info? 25).map (·.size) = some 3 := by kernel_rfl
def plcA (p : Shf0.Place) : Array Value := #[.int .i64 p.disk, .int .i64 p.area, .int .i64 p.index]
theorem plcA_one (p : Shf0.Place) : (plcA p).all (·.oneCell') = true := by simp [plcA, Value.oneCell']
theorem made64 {w : World} {b : Nat} (hb : w.heap[b]? = some (.cells (madeCells (Value.int .u8 0).cells (64 * 1)) 5 (0, 0))) : ∃ cs, w.heap[b]? = some (.cells cs 5 (0, 0)) ∧ ∀ (j : Nat) (x : UInt8), zeros[j]? = some x → cs[j]? = some (B x) := by
  refine ⟨_, hb, fun j x hx => ?_⟩
  have hj : j < 64 := by
    have := (List.getElem?_eq_some_iff.1 hx).1
    simpa [zeros] using this
  rw [zeros_get j hj] at hx
  injection hx with hx; subst hx
  simp [madeCells, Value.cells, hj, B, Nat.mod_one]

theorem sane1 : Shf0.state (Shf0.newS cfg0) 1 = 1 := by kernel_rfl
theorem sane2 : Shf0.state (Shf0.newS cfg0) 2 = 0 := by kernel_rfl
theorem sane3 : (Shf0.write (Shf0.newS cfg0) ⟨0, 4, 2⟩ zeros).1 = 0 := by kernel_rfl
theorem sane4 (S : Shf0.Shelf) (h : S.cfg = cfg0) (x : List UInt8) : Shf0.write S ⟨0, 4, 3⟩ x = (1, S) := by
  unfold Shf0.write
  rw [if_neg]
  rintro ⟨⟨-, -, -, -, h5⟩, -⟩
  rw [h] at h5
  simp [Shf0.sizes, cfg0] at h5
theorem sane5 : (Shf0.write (Shf0.newS cfg0) ⟨0, 4, 2⟩ zeros).2.cfg = cfg0 := by kernel_rfl
theorem sane6 : (Shf0.flush (Shf0.fuse (Shf0.write (Shf0.newS cfg0) ⟨0, 4, 2⟩ zeros).2 0) 0).1 = 14 := by kernel_rfl
theorem sane7 : (Shf0.flush (Shf0.fuse (Shf0.write (Shf0.newS cfg0) ⟨0, 4, 2⟩ zeros).2 0) 0).2.off = true := by kernel_rfl

set_option maxRecDepth 100000 in
set_option maxHeartbeats 2000000 in
theorem ssanity_calls (w : World) : Calls Try.prog 15 #[] w fun e w' => e = .returned (.bool true) ∧ Fr (fun _ => False) w w' := by
  have hnew : Calls Try.prog 17 #[.agg #[.int .i64 2, .int .i64 1, .int .i64 3, .int .i64 0, .int .i64 1, .int .i64 1]] w fun e w' => SNew cfg0 w e w' := snew_ok cfg0 w (by decide) (by decide)
  obtain ⟨i0, hi, hy0, hy1, hy2⟩ := info_parts info5
  have HY1 := Lib.hid hy1; clear hy1
  have HY2 := Lib.hid hy2; clear hy2
  go_enter Try.func15, Try.ntmps15
  go_wp2_with fail
  refine hnew.mono ?_; rintro e w1 ⟨s, rfl, h1, f1⟩
  obtain ⟨S, hS⟩ : ∃ S, S = Shf0.newS cfg0 := ⟨_, rfl⟩
  rw [← hS] at h1
  have HS := Lib.hid hS; clear hS
  have H1 := Lib.hid h1; clear h1
  have F1 := Lib.hid f1; clear f1
  have hup : S.off = false := by rw [HS.out]; rfl
  have hst1 := state_calls H1.out 1
  have hst2 := state_calls H1.out 2
  have e1 : Shf0.state S 1 = 1 := by rw [HS.out]; exact sane1
  have e2 : Shf0.state S 2 = 0 := by rw [HS.out]; exact sane2
  rw [e1] at hst1
  rw [e2] at hst2
  have hupc := up_calls H1.out
  rw [hup] at hupc
  clear hup e1 e2
  go_wp2_with fail
  refine hupc.mono ?_; rintro e w' ⟨rfl, rfl⟩
  go_wp2_with fail
  refine hst1.mono ?_; rintro e w' ⟨rfl, rfl⟩
  go_wp2_with fail
  refine hst2.mono ?_; rintro e w' ⟨rfl, rfl⟩
  clear hst1 hst2 hupc
  go_wp2_with (first
    | (refine im_alloc_row rfl 25 rfl (zero25 _) ?_; intro w2 b2 f2 z2; have B2 := Lib.hid b2; clear b2; have Z2 := Lib.hid z2; clear z2)
    | (refine im_store_row rfl 25 _ _ rfl (vs := plcA ⟨0, 4, 2⟩) rfl rfl B2.out rfl info25 (plcA_one _) ?_; intro w3 b3 f3 z3; obtain ⟨p0, p1, p2⟩ := plc_cells (p := ⟨0, 4, 2⟩) b3; have hl3 := lt_of_blk b3; clear b3; have Z3 := Lib.hid z3; clear z3))
  have hz2 := Z2.out
  have hz3 := Z3.out
  have g3 : Fr (fun _ => False) w1 w3 := f2.trans' f3 (fun _ _ h => h) (fun i hi h => by omega)
  have H3 := Lib.hid (H1.out.keep g3)
  have G3 := Lib.hid (F1.out.trans g3)
  clear f2 f3 g3 hz2 hz3
  refine wp_region_seq (fun W => W.cell? ⟨w1.heap.size, 0, none⟩ = some (.int .i64 0) ∧ W.cell? ⟨w1.heap.size, 1, none⟩ = some (.int .i64 4) ∧ W.cell? ⟨w1.heap.size, 2, none⟩ = some (.int .i64 2)) [0, 1, 2, 3, 4, 5] [2, 3, 4, 5] (by kernel_rfl) (by kernel_rfl) (by kernel_rfl) ⟨p0, p1, p2⟩ ?_
  simp only [pickOps, List.filterMap_cons, List.filterMap_nil, List.getElem?_toArray, List.getElem?_cons_zero, List.getElem?_cons_succ, Option.map_some]
  repeat (refine seqH_read (v := ?_) (by rfl) (by rfl) ?_ ?_; rotate_left; (focus (intro W hS; (try dsimp only at hS); obtain ⟨s1, s2, s3⟩ := hS; go_simp; try with_reducible rfl)); simp only [Act.put, List.setIfInBounds_toArray, List.set_cons_zero, List.set_cons_succ])
  refine seqH_eff (by rfl) (by rfl) fun K hK => ?_
  refine wp_makeS 70 _ _ rfl u70 hi hy0 64 rfl rfl rfl rfl (by rw [HY2.out]; omega) (by omega) ?_
  intro w4 b4 f4 z4
  rw [HY1.out] at b4
  replace f4 := f4.undrew
  obtain ⟨mcs, mb, mh⟩ := made64 b4
  have MB := Lib.hid mb
  have MH := Lib.hid mh
  clear mb mh b4 z4
  refine hK.out _ _ ⟨(f4.cb hl3 (fun h => h)).trans p0, (f4.cb hl3 (fun h => h)).trans p1, (f4.cb hl3 (fun h => h)).trans p2⟩ ?_
  simp only [Act.put, List.setIfInBounds_toArray, List.set_cons_zero, List.set_cons_succ]
  refine seqH_eff (by rfl) (by rfl) fun K hK => ?_
  refine wp_back 70 9 _ rfl rfl u70 u5 u9 MB.out (by simp [zeros]) MH.out ?_
  refine hK.out _ _ ⟨(f4.cb hl3 (fun h => h)).trans p0, (f4.cb hl3 (fun h => h)).trans p1, (f4.cb hl3 (fun h => h)).trans p2⟩ ?_
  simp only [Act.put, List.setIfInBounds_toArray, List.set_cons_zero, List.set_cons_succ]
  refine seqH_eff (by rfl) (by rfl) fun K hK => ?_
  obtain ⟨S1, hS1⟩ : ∃ S1, S1 = (Shf0.write S ⟨0, 4, 2⟩ zeros).2 := ⟨_, rfl⟩
  have hr1 : (Shf0.write S ⟨0, 4, 2⟩ zeros).1 = 0 := by rw [HS.out]; exact sane3
  refine wp_callC 53 #[.pointer (some ⟨s, 0, none⟩), .agg #[.int .i64 0, .int .i64 4, .int .i64 2], .string ⟨zeros.toArray⟩] (by go_simp) (R := fun v w' => v = .int .i64 0 ∧ ShelfAt w' (fun q => w.heap.size ≤ q ∧ q < w1.heap.size) s S1 ∧ Fr (fun q => w.heap.size ≤ q ∧ q < w1.heap.size) w4 w')
    ((swrite_calls (H3.out.keep f4) ⟨0, 4, 2⟩ z64S).mono (by rintro e w' ⟨rfl, hs, hf⟩; rw [z64S_list, hr1] ; rw [z64S_list, ← hS1] at hs; exact ⟨_, rfl, rfl, hs, hf⟩)) ?_
  rintro v w5 ⟨rfl, s5, f5⟩
  have H5 := Lib.hid s5; clear s5
  have hnl : ¬ (w.heap.size ≤ w1.heap.size ∧ w1.heap.size < w1.heap.size) := by omega
  have hl4 := Nat.lt_of_lt_of_le hl3 f4.size
  refine hK.out _ _ ⟨(f5.cb hl4 hnl).trans ((f4.cb hl3 (fun h => h)).trans p0), (f5.cb hl4 hnl).trans ((f4.cb hl3 (fun h => h)).trans p1), (f5.cb hl4 hnl).trans ((f4.cb hl3 (fun h => h)).trans p2)⟩ ?_
  simp only [Act.put, List.setIfInBounds_toArray, List.set_cons_zero, List.set_cons_succ]
  refine seqH_eff (by rfl) (by rfl) fun K hK => ?_
  unfold Oper.wp
  go_simp
  refine hK.out _ _ ⟨(f5.cb hl4 hnl).trans ((f4.cb hl3 (fun h => h)).trans p0), (f5.cb hl4 hnl).trans ((f4.cb hl3 (fun h => h)).trans p1), (f5.cb hl4 hnl).trans ((f4.cb hl3 (fun h => h)).trans p2)⟩ ?_
  refine seqH_nil ?_
  have G5 := Lib.hid ((G3.out.trans f4).trans' f5 (U := fun _ => False) (fun _ _ h => h) (fun i hi h => by omega))
  clear hK p0 p1 p2 hl3 hl4 hnl f4 f5 H1 F1 H3 G3 MB MH
  have HS1 := Lib.hid hS1; clear hS1
  have hc1 : S1.cfg = cfg0 := by rw [HS1.out, HS.out]; exact sane5
  have HC1 := Lib.hid hc1; clear hc1 hr1
  go_wp2_with (first
    | (refine im_make rfl 70 _ _ rfl u70 hi hy0 64 rfl rfl rfl rfl (by rw [HY2.out]; omega) (by omega) ?_; intro w6 b6 f6 z6; rw [HY1.out] at b6; obtain ⟨ncs, nb, nh⟩ := made64 b6; have NB := Lib.hid nb; have NH := Lib.hid nh; clear nb nh b6 z6)
    | (refine im_back rfl 70 9 _ rfl rfl u70 u5 u9 NB.out (by simp [zeros]) NH.out ?_))
  have hw2 := swrite_calls (H5.out.keep f6) ⟨0, 4, 3⟩ z64S
  rw [sane4 S1 HC1.out] at hw2
  refine hw2.mono ?_; rintro e w7 ⟨rfl, s7, f7⟩
  have H7 := Lib.hid s7; clear s7 hw2
  have G7 := Lib.hid ((G5.out.trans f6).trans' f7 (U := fun _ => False) (fun _ _ h => h) (fun i hi h => by omega))
  clear f6 f7 NB NH
  go_wp2_with fail
  refine (fuse_calls H7.out 0).mono ?_; rintro e w8 ⟨rfl, s8, f8⟩
  have H8 := Lib.hid s8; clear s8
  have G8 := Lib.hid (G7.out.trans' f8 (U := fun _ => False) (fun _ _ h => h) (fun i hi h => by omega))
  clear f8
  go_wp2_with fail
  have hfl : (Shf0.flush (Shf0.fuse S1 0) 0).1 = 14 := by rw [HS1.out, HS.out]; exact sane6
  have hof : (Shf0.flush (Shf0.fuse S1 0) 0).2.off = true := by rw [HS1.out, HS.out]; exact sane7
  refine (sflush_calls H8.out 0).mono ?_; rintro e w9 ⟨rfl, s9, f9, -⟩
  rw [hfl]
  have H9 := Lib.hid s9; clear s9
  have G9 := Lib.hid (G8.out.trans' f9 (U := fun _ => False) (fun _ _ h => h) (fun i hi h => by omega))
  have hup := up_calls H9.out
  rw [hof] at hup
  clear f9 hfl hof
  go_wp2_with fail
  refine hup.mono ?_; rintro e w' ⟨rfl, rfl⟩
  clear hup
  go_wp2_with fail
  go_ret
  exact ⟨rfl, G9.out⟩
end Go.Proofs.Ytmbkmfpnjpkakaa
