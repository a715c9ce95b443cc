/- 'solventlaw16.DiskMatchesSpec' answers true for every input, and its arguments read as before; no condition. -/
import Derived.Test.YtmbkmfpnjpkakaaE10
namespace Go.Proofs.Ytmbkmfpnjpkakaa
open Go.ChangeShapes Go.WideShapes Go.ChangeAt Go.RowKit Go.Im Go.Dsk0

/-- The reference disk stays while the program's disk turns. -/
theorem refFoot {w w' : World} {g bd bc ba h bl : Nat} {D : Dsk} (hr : RefAt w h bl D) (hd : DiskAt w g bd bc ba D) (f : Fr (foot bd bc ba) w w') (hne : ¬ foot bd bc ba h) : RefAt w' h bl D := by
  by_cases hD : D = []
  · subst hD
    obtain ⟨h1, av, cap, h2, h3, -⟩ := hr
    exact ⟨h1, av, cap, (f.block h (lt_of_blk h2) hne).trans h2, h3, .inl rfl⟩
  · obtain ⟨av, cap, hgb, hcap, hdur⟩ := hd.head
    obtain ⟨es, cl, hc, -⟩ := hd.cache
    obtain ⟨es2, cl2, ha, -⟩ := hd.armed
    obtain ⟨-, cs, hb, -⟩ := hdur.resolve_left hD
    have hty : ∀ (b : Nat) (cs : Array Value) (t : TypeId) (fr : Nat × Nat), w.heap[b]? = some (.cells cs t fr) → t ≠ 126 → ¬ foot bd bc ba b := by
      rintro b cs' t fr hb' ht (rfl | rfl | rfl)
      · rw [hb'] at hb; injection hb with hb; injection hb with _ hb _; exact ht hb
      · rw [hb'] at hc; cases hc
      · rw [hb'] at ha; cases ha
    refine hr.fr f hne (fun _ => ?_) (fun b cs fr hb' => hty b cs 5 fr hb' (by decide))
    obtain ⟨-, av2, cap2, h2, h3, h4⟩ := hr
    obtain ⟨-, cs2, h5, -⟩ := h4.resolve_left hD
    exact hty bl cs2 124 _ h5 (by decide)

set_option maxRecDepth 100000 in
set_option maxHeartbeats 2000000 in
theorem diskMatches_main (n : Nat) (v : Value) (l : List DOp) (w : World) (hl : OpsAt w v l (fun b => b < w.heap.size)) (hn : n ≤ 40) (hll : l.length ≤ 200) :
    Calls Try.prog 4 #[.int .i64 n, v] w fun e w' => e = .returned (.bool true) ∧ Below w.heap.size w w' := by
  obtain ⟨a, c, rfl, -, hcells⟩ := hl
  have HC := Lib.hid hcells; clear hcells
  have n0 : (0 : Int) ≤ n := by omega
  have n1 : (n : Int) ≤ 40 := by omega
  have l1 : (l.length : Int) ≤ 200 := by omega
  go_enter Try.func4, Try.ntmps4
  go_wp2_with fail
  refine (few_yes n a l.length c w n0 n1 hll).mono ?_; rintro e w' ⟨rfl, rfl⟩
  go_wp2_with fail
  refine (new_calls n w).mono ?_; rintro e w1 ⟨g, bd0, bc, ba, rfl, d0, f1, hbd0, hbc, hba, hg⟩
  obtain ⟨bd, d1, hbl, hbe⟩ := d0.norm
  have hbd : w.heap.size ≤ bd := by rcases hbe with h | h <;> omega
  have D1 := Lib.hid d1; clear d0 d1 hbe hbd0
  have hs1 := f1.size
  go_wp2_with fail
  refine (rnew_calls n w1).mono ?_; rintro e w2 ⟨bl0, rfl, hbl0, r0, f2⟩
  obtain ⟨bl, r2, hbll, hble⟩ := r0.norm
  have hblw : w1.heap.size ≤ bl := by rcases hble with h | h <;> omega
  have R2 := Lib.hid r2; clear r0 r2 hble hbl0
  have D2 := Lib.hid (D1.out.keep f2)
  have FU := Lib.hid (foot_up hbd hbc hba)
  have hs2 := f2.size
  have hgl := D1.out.glt
  have hcl := D1.out.cache.lt
  have hal := D1.out.armed.lt
  have FM := Lib.hid (show ∀ q, foot bd bc ba q → q < w1.heap.size from fun q h => by unfold foot at h; omega)
  have hrl : w1.heap.size < w2.heap.size := by obtain ⟨av, cap, -, hq, -⟩ := R2.out.open_; exact lt_of_blk hq
  go_wp2_with fail
  refine (dsame_calls g bd bc ba w1.heap.size bl (new n) w2 D2.out R2.out).mono ?_; rintro e w3 ⟨rfl, f3⟩
  have D3 := Lib.hid (D2.out.keep f3)
  have R3 := Lib.hid (R2.out.keep f3)
  have hs3 := f3.size
  have f03 : Fr (fun q => w.heap.size ≤ q) w w3 := ((f1.trans f2).trans f3).none
  clear D1 D2 R2 f1 f2 f3
  go_wp2_with fail
  go_loopg [24] l.length (fun m t wr => ∃ k : Nat, m + k = l.length ∧ t = .int .i64 k ∧ DiskAt wr g bd bc ba (doAll (new n) (l.take k)) ∧ RefAt wr w1.heap.size bl (doAll (new n) (l.take k)) ∧ Fr (fun q => w.heap.size ≤ q) w wr ∧ w2.heap.size ≤ wr.heap.size)
  case atStart => exact ⟨0, rfl, rfl, D3.out, R3.out, f03, hs3⟩
  case round =>
    obtain ⟨k, hm, rfl, hd, hr, hfr, hsz⟩ := hrel
    have HM := Lib.hid hm; clear hm
    have HD := Lib.hid hd; clear hd
    have HR := Lib.hid hr; clear hr
    by_cases hk : k < l.length
    · obtain ⟨o, ho⟩ : ∃ o, l[k]? = some o := ⟨_, List.getElem?_eq_getElem hk⟩
      obtain ⟨b, p, rfl, hb, _, hops⟩ := HC.out.resolve_left (fun e => by rw [e] at hk; simp at hk)
      obtain ⟨pv, hop⟩ := hops k o ho
      have HO := Lib.hid ho; clear ho
      have ho1 := hop.fr hfr (fun b hb hn h => by omega) hb hb
      have HP := Lib.hid ho1.picks
      have h1 := ho1.picks.one'
      obtain ⟨e0, e1, e2, e3, e4, e5, -⟩ := ho1
      clear hop hops
      go_wp2_with (first
        | (refine im_alloc_row rfl 48 rfl (zero48 _) ?_; intro w4 b4 f4 z4; have B4 := Lib.hid b4; clear b4; have Z4 := Lib.hid z4; clear z4)
        | (refine im_store_row rfl 48 _ _ rfl (vs := opC o pv) rfl rfl B4.out rfl info48 (opC_one o h1) ?_; intro w5 b5 f5 z5; have B5 := Lib.hid b5; clear b5; have Z5 := Lib.hid z5; clear z5))
      clear e0 e1 e2 e3 e4 e5
      have hz4 := Z4.out
      have hz5 := Z5.out
      have g5 : Fr (fun q => wr.heap.size ≤ q) wr w5 := f4.trans' f5 (U := fun q => wr.heap.size ≤ q) (fun _ _ h => h.elim) (fun q hq h => by omega)
      have D5 := Lib.hid (HD.out.fr g5 (by have := HD.out.glt; omega) (fun _ => by omega) (by have := HD.out.cache.lt; omega) (by have := HD.out.armed.lt; omega))
      have R5 := Lib.hid (HR.out.fr g5 (by omega) (fun _ => by omega) (noBytes_new wr))
      have P5 := Lib.hid (HP.out.fr g5 (fun b hb hn h => by omega))
      have G5 := Lib.hid (hfr.trans (g5.mono fun q _ h => by omega))
      clear f4 f5 g5 hfr HD HR HP
      refine wp_region_seq (fun W => W.heap[wr.heap.size]? = some (.cells (opC o pv) 48 (0, 0))) [0, 1, 3, 4, 2, 5, 6, 7, 8, 9, 10, 11, 12] [2, 5, 10] (by kernel_rfl) (by kernel_rfl) (by kernel_rfl) B5.out ?_
      simp only [pickOps, List.filterMap_cons, List.filterMap_nil, List.getElem?_toArray, List.getElem?_cons_zero, List.getElem?_cons_succ, Option.map_some]
      repeat (refine seqH_read (v := ?_) (by rfl) (by rfl) ?_ ?_; rotate_left; (focus (intro W hS; (try dsimp only at hS); obtain ⟨s1, s2, s3, s4, s5, s6⟩ := opC_cells hS; clear hS; go_simp; try with_reducible rfl)); simp only [Act.put, List.setIfInBounds_toArray, List.set_cons_zero, List.set_cons_succ])
      refine seqH_eff (by rfl) (by rfl) fun K hK => ?_
      have hblk5 : wr.heap.size < w5.heap.size := lt_of_blk B5.out
      obtain ⟨E, hE⟩ : ∃ E, E = doAll (new n) (l.take k) := ⟨_, rfl⟩
      rw [← hE] at D5 R5
      have hE1 : doAll (new n) (l.take (k + 1)) = (doOp E o).2 := by rw [hE]; exact doAll_take HO.out _
      have HE1 := Lib.hid hE1; clear hE hE1
      refine wp_callC 27 #[.pointer (some ⟨g, 0, none⟩), opV o pv] (by unfold opV; go_simp) (R := fun v w' => v = .int .i64 (doOp E o).1 ∧ DiskAt w' g bd bc ba (doOp E o).2 ∧ Fr (foot bd bc ba) w5 w')
        ((do_calls g bd bc ba _ w5.drew (D5.out.keep (Fr.refl _ w5).drew) (by simp; omega) o pv ((P5.out.fr ((Fr.refl (fun _ => False) w5).drew) (fun _ _ _ h => h)).imp (fun b hb hn h => by have := FU.out b h; omega))).mono (by rintro e w' ⟨rfl, hd, hf⟩; exact ⟨_, rfl, rfl, hd, hf.undrew⟩)) ?_
      rintro v6 w6 ⟨rfl, d6, f6⟩
      have D6 := Lib.hid d6; clear d6
      have R6 := Lib.hid (refFoot R5.out D5.out f6 (fun h => by have := FM.out _ h; omega))
      have hb6 := (f6.block _ hblk5 (fun h => by have := FM.out _ h; omega)).trans B5.out
      have P6 := Lib.hid (P5.out.fr f6 (fun b hb hn h => by have := FU.out _ h; omega))
      have G6 := Lib.hid (G5.out.trans (f6.mono fun q _ h => FU.out q h))
      have hz6 := f6.size
      refine hK.out _ _ hb6 ?_
      simp only [Act.put, List.setIfInBounds_toArray, List.set_cons_zero, List.set_cons_succ]
      refine seqH_eff (by rfl) (by rfl) fun K hK => ?_
      refine wp_callC 28 #[.pointer (some ⟨w1.heap.size, 0, none⟩), opV o pv] (by unfold opV; go_simp) (R := fun v w' => v = .int .i64 (doOp E o).1 ∧ RefAt w' w1.heap.size bl (doOp E o).2 ∧ Fr (fun q => q = bl) w6 w')
        ((rdo_calls w1.heap.size bl E w6 R6.out (by omega) o pv (P6.out.imp (fun b hb hn => by omega))).mono (by rintro e w' ⟨rfl, hd, hf⟩; exact ⟨_, rfl, rfl, hd, hf⟩)) ?_
      rintro v7 w7 ⟨rfl, r7, f7⟩
      have R7 := Lib.hid r7; clear r7
      have D7 := Lib.hid (D6.out.fr f7 (by omega) (fun _ => by have := FM.out bd (foot_d _ _ _); omega) (by have := FM.out bc (foot_c _ _ _); omega) (by have := FM.out ba (foot_a _ _ _); omega))
      have hb7 := (f7.block _ (by omega) (by omega)).trans hb6
      have G7 := Lib.hid (G6.out.trans (f7.mono fun q _ h => by omega))
      have hz7 := f7.size
      refine hK.out _ _ hb7 ?_
      obtain ⟨N, hN⟩ : ∃ N, N = (doOp E o).1 := ⟨_, rfl⟩
      rw [← hN]
      have hNN : (N != N) = false := by simp
      simp only [Act.put, List.setIfInBounds_toArray, List.set_cons_zero, List.set_cons_succ]
      repeat (refine seqH_read (v := ?_) (by rfl) (by rfl) ?_ ?_; rotate_left; (focus (intro W hS; (try dsimp only at hS); obtain ⟨s1, s2, s3, s4, s5, s6⟩ := opC_cells hS; clear hS; go_simp; try with_reducible rfl)); simp only [Act.put, List.setIfInBounds_toArray, List.set_cons_zero, List.set_cons_succ])
      refine seqH_eff (by rfl) (by rfl) fun K hK => ?_
      refine wp_callC 26 #[.pointer (some ⟨g, 0, none⟩), .pointer (some ⟨w1.heap.size, 0, none⟩)] (by go_simp) (R := fun v w' => v = .bool true ∧ Fr (fun _ => False) w7 w')
        ((dsame_calls g bd bc ba w1.heap.size bl _ w7 D7.out R7.out).mono (by rintro e w' ⟨rfl, hf⟩; exact ⟨_, rfl, rfl, hf⟩)) ?_
      rintro v8 w8 ⟨rfl, f8⟩
      have R8 := Lib.hid (R7.out.keep f8)
      have D8 := Lib.hid (D7.out.keep f8)
      have hb8 := (f8.block _ (by omega) (fun h => h)).trans hb7
      have G8 := Lib.hid (G7.out.trans f8.none)
      have hz8 := f8.size
      refine hK.out _ _ hb8 ?_
      simp only [Act.put, List.setIfInBounds_toArray, List.set_cons_zero, List.set_cons_succ]
      repeat (refine seqH_read (v := ?_) (by rfl) (by rfl) ?_ ?_; rotate_left; (focus (intro W hS; (try dsimp only at hS); obtain ⟨s1, s2, s3, s4, s5, s6⟩ := opC_cells hS; clear hS; go_simp; try with_reducible rfl)); simp only [Act.put, List.setIfInBounds_toArray, List.set_cons_zero, List.set_cons_succ])
      refine seqH_nil ?_
      clear hb6 hb7 hb8 f6 f7 f8 hK D5 R5 P5 G5 D6 R6 P6 G6 D7 R7 G7 hN hNN
      go_wp2_with fail
      have hn : gk + k = l.length := HM.out
      go_roundg (gk - 1)
      case measure => omega
      case rel => exact ⟨k + 1, by omega, by go_num, by rw [HE1.out]; exact D8.out, by rw [HE1.out]; exact R8.out, G8.out, by omega⟩
    · go_wp2_with fail
      refine (sanity_calls _).mono ?_; rintro e w4 ⟨rfl, f4⟩
      go_wp2_with fail
      go_ret
      exact ⟨rfl, fr_below (hfr.trans f4.none)⟩

theorem diskMatches_walk (n : Int) (v : Value) (l : List DOp) (w : World) (hl : OpsAt w v l (fun b => b < w.heap.size)) :
    Calls Try.prog 4 #[.int .i64 n, v] w fun e w' => e = .returned (.bool true) ∧ Below w.heap.size w w' := by
  by_cases h : 0 ≤ n ∧ n ≤ 40 ∧ l.length ≤ 200
  · obtain ⟨n, rfl⟩ : ∃ k : Nat, n = k := ⟨n.toNat, by omega⟩
    exact diskMatches_main n v l w hl (by omega) (by omega)
  · obtain ⟨a, c, rfl, -, -⟩ := hl
    have HF := Lib.hid h; clear h
    go_enter Try.func4, Try.ntmps4
    go_wp2_with fail
    refine (few_no n a l.length c w HF.out).mono ?_; rintro e w' ⟨rfl, rfl⟩
    go_wp2_with fail
    refine (sanity_calls w).mono ?_; rintro e w1 ⟨rfl, f1⟩
    go_wp2_with fail
    go_ret
    exact ⟨rfl, f1.below⟩

set_option maxRecDepth 100000 in
theorem diskMatchesSpec_lifted (os : Os) (started : os.Started) (H : Type) (enc : TypeId × Value → H) :
    ReturnsInHanded {} Try.checked os 4 .any (Rows.diskMatchesSpecSpec.pre6 enc Try.prog Try.f4 Rows.diskMatchesSpecRow.domain false) (Rows.diskMatchesSpecSpec.post enc Try.prog Try.f4 false true false false) := by
  refine returnsInHanded_of_change (C := Try.checked) own started (by kernel_rfl) Try.func4
    (ChangeSpec.witness6 (enc := enc) (C := Try.checked) false ⟨#[], #[.int .i64 0, .slice none 0 0], []⟩ 8 (by kernel_rfl) (by kernel_rfl) (by kernel_rfl) (by kernel_rfl)) ?_
  intro W base args ds gs before hval0 hW hcnd _
  have hval : ∀ (j : Nat) t v, Try.f4.params[j]? = some t → args[j]? = some v → Value.okWide Try.prog W .any base t v := hval0
  have hW' := hW
  obtain ⟨p, q, hA0, hV, rfl, hfz, hnd⟩ := hW
  have hA : DataW.TrodAll enc Try.prog W 0 (fun _ => true) true Try.f4.params.toList args.toList ds p := hA0
  rw [Try.params4] at hA hval
  obtain ⟨v0, vs0, d0, ds0, p0, q0, hargs, rfl, rfl, h0, r0⟩ := trodAll_cons hA
  obtain ⟨v1, vs1, d1, ds1, p1, q1, rfl, rfl, rfl, h1, r1⟩ := trodAll_cons r0
  obtain ⟨rfl, rfl, rfl⟩ := trodAll_nil r1
  obtain rfl : args = #[v0, v1] := by cases args; simp_all
  obtain ⟨rfl, rfl⟩ := trodVars_none hV
  obtain ⟨a0, rfl, rfl, rfl, w0⟩ := open_int Try.underlying3 (hval 0 3 v0 rfl rfl) h0
  obtain ⟨b1, len1, cap1, rfl⟩ := okWide_slice Try.underlying39 (hval 1 39 v1 rfl rfl)
  obtain ⟨l1, hl1⟩ : ∃ l, OpsAt W (.slice b1 len1 cap1) l (fun b => b < W.heap.size) := by obtain ⟨fuel, hf⟩ := h1; exact ops_of_cells opTypes hf
  clear hA0 hval0
  refine (diskMatches_walk a0 _ l1 W hl1).mono fun e W' ⟨he, hb⟩ => ?_
  subst he
  exact ⟨_, rfl, law_post laidOut Try.underlying4 hW' rfl rfl (by kernel_rfl) ⟨rfl, rfl, rfl⟩ hb⟩

/-- The statement. -/
theorem diskMatchesSpec_proved : Rows.DiskMatchesSpecSaid :=
  OpenClaim.holds_of_wide 4 Try.f4 rfl rfl rfl rfl rfl rfl rfl ⟨rfl, rfl, rfl, rfl, rfl⟩ rfl rfl rfl rfl rfl (by kernel_rfl) Try.func4 (by kernel_rfl)
    (of_decide_eq_true (by kernel_rfl)) (by unfold Func.isWrapper; first | (rw [if_pos (by decide +kernel)]; kernel_rfl) | (rw [if_neg (by decide +kernel)]; exact ⟨rfl, rfl⟩))
    (fun os started H enc _ => diskMatchesSpec_lifted os started H enc)
#print axioms diskMatchesSpec_proved
end Go.Proofs.Ytmbkmfpnjpkakaa
