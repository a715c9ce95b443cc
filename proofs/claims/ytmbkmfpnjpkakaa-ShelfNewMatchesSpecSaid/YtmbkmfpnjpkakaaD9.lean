/- The program's disk: Clone. -/
import Derived.Test.YtmbkmfpnjpkakaaD8
import Derived.Test.YtmbkmfpnjpkakaaA5
namespace Go.Im
open Go
section
variable {P : Program} {Q : Exit → Act → World → Prop}
theorem wp_box {o : Oper} {a : Act} {w : World} {K : Act → World → Prop} (t : TypeId) (x : Operand) (hop : o.op = Op.box t x) {v : Value} (hx : a.eval x = v)
    (hK : ∀ w', w'.heap[w.heap.size]? = some (.cells v.cells t (0, 0)) → Fr (fun _ => False) w w' → w'.heap.size = w.heap.size + 1 → K (a.put o.dst (.pointer (some ⟨w.heap.size, 0, none⟩))) w') : o.wp P a w K Q := by
  unfold Oper.wp
  simp only [execOp, hop, hx, Instr.box, newVar, newRow, Sem.run_bind, run_newObj, Result.andThen_ok, Sem.run_pure]
  exact hK (w.alloc _) (heap_alloc_new w _) ((Fr.refl _ _).alloc _) (by simp)
end
end Go.Im
namespace Go.Proofs.Ytmbkmfpnjpkakaa
open Go.RowKit Go.Im Go.Dsk0

/-- The clone of an empty durable row. -/
theorem sclone_empty (av : Option Addr) (cap : Nat) (w : World) :
    Calls Try.prog 87 #[.slice av 0 cap] w fun e w' => ∃ av' cap', e = .returned (.slice av' 0 cap') ∧ Fr (fun _ => False) w w' := by
  cases av with
  | none =>
    refine (AnyE.slices_Clone_nil Try.scA 0 cap w).mono ?_
    rintro e w' ⟨rfl, rfl⟩
    exact ⟨none, 0, rfl, Fr.refl _ _⟩
  | some ad =>
    obtain ⟨i0, hi, hz0, hz1, hz2⟩ := info_parts info126i
    have q22 : ∀ (w : World) (a : Option Addr) (n c n' c' : Nat), (binOp .eql 115 (.slice a n c) (.slice none n' c')).run Try.prog w = .ok (.bool a.isNone) w := fun w a n c n' c' => Lib.run_eql_slice_nil w _ _ a n c n' c' u115
    go_enter Try.func87, Try.ntmps87
    go_wp2_with (at_builtin; refine wpList_append_own _ rfl _ _ 115 rfl w.heap.size 126 i0 (.agg z64) 64 64 u115 hi hz0 hz1 hz2 z64_size (by decide) _ _ _ rfl (World.ownsRow_made w #[] 0 (Nat.le_refl _) (Nat.zero_le _) (by simp)) ad 0 cap [] rfl ?qc1 ?qc2 ?qc3 ?qc4 ?qc5 ?qc6 ?_)
    case qc1 => rfl
    case qc2 => intro j u hj; simp at hj
    case qc3 => intro u hu; simp at hu
    case qc4 => decide
    case qc5 => decide
    case qc6 => simp
    intro v' w1 hown hgrow hnil
    go_wp2
    go_ret
    obtain ⟨-, h2 | ⟨g, cap', cur, h2, -⟩⟩ := hown
    · exact ⟨none, 0, by rw [h2.1]; rfl, Fr.of_below (((Below.refl _ w).alloc (Nat.le_refl _) _).grown hgrow (by simp) (by intro k hk; simp [Value.ownBlock] at hk; omega)) _⟩
    · exact ⟨_, cap', by rw [h2]; rfl, Fr.of_below (((Below.refl _ w).alloc (Nat.le_refl _) _).grown hgrow (by simp) (by intro k hk; simp [Value.ownBlock] at hk; omega)) _⟩

theorem sc_main (i0 : TypeInfo) (hi : Try.prog.info? 126 = some i0) (hz0 : i0.zero = some (.agg z64)) (hz1 : i0.size = 64) (hz2 : i0.bytes = 64) (b n c : Nat) (news : List Value) (w : World) (hl : news.length = n * 64) (hn : n ≤ maxLen) (hbig : n * 64 ≤ 140737488355328)
    (hc : ∀ j u, news[j]? = some u → w.cell? ⟨b, 0 + j, none⟩ = some u) (h1 : ∀ u ∈ news, u.oneCell' = true) :
    Calls Try.prog 87 #[.slice (some ⟨b, 0, none⟩) n c] w fun e w' => ∃ v', e = .returned v' ∧ w'.ownsRow w.heap.size 126 64 v' n news ∧ v' ≠ .slice none 0 0 ∧ Below w.heap.size w w' :=
  AnyE.slices_Clone Try.scA i0 (.agg z64) 64 64 hi hz0 hz1 hz2 z64_size (by decide) (fun w => by kernel_rfl) b 0 n c news w hl hn hbig hc h1

theorem sclone_calls (av : Option Addr) (bd cap : Nat) (D : Dsk) (w : World) (hD : Ok D) (h : DurAt w av bd D) :
    Calls Try.prog 87 #[.slice av D.length cap] w fun e w' => ∃ av' cap' bd', e = .returned (.slice av' D.length cap') ∧ D.length ≤ cap' ∧ w.heap.size ≤ bd' ∧ DurAt w' av' bd' D ∧ Fr (fun _ => False) w w' := by
  by_cases hE : D = []
  · subst hE
    refine (sclone_empty av cap w).mono ?_
    rintro e w' ⟨av', cap', rfl, hf⟩
    exact ⟨av', cap', w.heap.size, rfl, Nat.zero_le _, Nat.le_refl _, .inl rfl, hf⟩
  · rcases h with h | ⟨rfl, cs, hb, hsz, hcs⟩
    · exact absurd h hE
    · obtain ⟨i0, hi, hz0, hz1, hz2⟩ := info_parts info126i
      have hlen := hD.len
      have hcell : ∀ k, k < D.length * 64 → ∃ x, cs[k]? = some (B x) := by
        intro k hk
        have hk1 : k / 64 < D.length := by omega
        have h1 := hcs (k / 64) D[k / 64] (List.getElem?_eq_getElem hk1) (k % 64) (by omega)
        have h2 : k / 64 * 64 + k % 64 = k := by omega
        rw [h2] at h1
        have h3 := hD.dur _ (List.getElem_mem hk1)
        have h4 : D[k / 64].dur[k % 64]? = some (D[k / 64].dur[k % 64]'(by omega)) := List.getElem?_eq_getElem _
        rw [h4] at h1
        exact ⟨_, h1⟩
      refine (sc_main i0 hi hz0 hz1 hz2 bd D.length cap (cs.toList.take (D.length * 64)) w (by simp; omega) (by unfold maxLen; omega) (by omega) (fun j u hj => by
        rw [cell_of_blk hb, Nat.zero_add]
        rw [List.getElem?_take] at hj
        split at hj
        · simpa using hj
        · cases hj) (fun u hu => by
        obtain ⟨j, hj⟩ := List.mem_iff_getElem?.1 hu
        rw [List.getElem?_take] at hj
        split at hj
        · rename_i hjl
          obtain ⟨x, hx⟩ := hcell j hjl
          have : cs[j]? = some u := by simpa using hj
          rw [hx] at this
          rw [← Option.some.inj this]; exact B_one x
        · cases hj)).mono ?_
      rintro e w' ⟨v', rfl, hrow, -, hbel⟩
      obtain ⟨h1, h2 | ⟨g, cap', cur, h2, h3, h4, h5, h6, h7, h8⟩⟩ := hrow
      · exact absurd (List.eq_nil_of_length_eq_zero h2.2) hE
      · refine ⟨_, cap', g, by rw [h2], h5, h3, .inr ⟨rfl, cur, h4, by rw [h7]; exact Nat.mul_le_mul_right 64 h5, fun i s hs j hj => ?_⟩, Fr.of_below hbel _⟩
        have hil : i < D.length := (List.getElem?_eq_some_iff.1 hs).1
        have hlt : i * 64 + j < D.length * 64 := by
          have : (i + 1) * 64 ≤ D.length * 64 := Nat.mul_le_mul_right 64 hil
          omega
        have e1 : (cur.toList.take (D.length * 64))[i * 64 + j]? = (cs.toList.take (D.length * 64))[i * 64 + j]? := by rw [h8]
        rw [List.getElem?_take_of_lt hlt, List.getElem?_take_of_lt hlt] at e1
        simp only [Array.getElem?_toList] at e1
        rw [e1]; exact hcs i s hs j hj

theorem mcloneA_calls (b : Nat) (f : Int → Option Value) (w : World) (h : At w b f) :
    Calls Try.prog 88 #[.map (some b)] w fun e w' => ∃ v, e = .returned v ∧ v = .map (some w.heap.size) ∧ At w' w.heap.size f ∧ Fr (fun _ => False) w w' := by
  obtain ⟨es, c, hb, r⟩ := h
  refine (AnyW.maps_Clone Try.mcA b es c w hb).mono ?_
  rintro e w' ⟨rfl, rfl⟩
  exact ⟨_, rfl, rfl, ⟨es, c, heap_alloc_new w _, r⟩, (Fr.refl _ _).alloc _⟩
theorem mcloneB_calls (b : Nat) (f : Int → Option Value) (w : World) (h : At w b f) :
    Calls Try.prog 89 #[.map (some b)] w fun e w' => ∃ v, e = .returned v ∧ v = .map (some w.heap.size) ∧ At w' w.heap.size f ∧ Fr (fun _ => False) w w' := by
  obtain ⟨es, c, hb, r⟩ := h
  refine (AnyW.maps_Clone Try.mcB b es c w hb).mono ?_
  rintro e w' ⟨rfl, rfl⟩
  exact ⟨_, rfl, rfl, ⟨es, c, heap_alloc_new w _, r⟩, (Fr.refl _ _).alloc _⟩

set_option maxRecDepth 100000 in
set_option maxHeartbeats 1000000 in
theorem clone_calls (g bd bc ba : Nat) (D : Dsk) (w : World) (h : DiskAt w g bd bc ba D) :
    Calls Try.prog 43 #[.pointer (some ⟨g, 0, none⟩)] w fun e w' => ∃ g' bd' bc' ba', e = .returned (.pointer (some ⟨g', 0, none⟩)) ∧ DiskAt w' g' bd' bc' ba' D ∧ Fr (fun _ => False) w w' ∧ w.heap.size ≤ bd' ∧ w.heap.size ≤ bc' ∧ w.heap.size ≤ ba' ∧ w.heap.size ≤ g' := by
  obtain ⟨av, cap, c0, c1, c2, hg, hcap, hd⟩ := h.open_
  have hglt := h.glt
  have H := Lib.hid h; clear h
  have HD := Lib.hid hd; clear hd
  have HG := Lib.hid hg; clear hg
  clear c0 c1 c2
  go_enter Try.func43, Try.ntmps43
  go_wp2_with fail
  refine wp_region_seq (fun W => W.heap[g]? = some (.cells #[.slice av D.length cap, .map (some bc), .map (some ba)] 119 (0, 0))) [0, 1, 2, 3, 5, 6, 7, 8, 10, 11, 12, 13, 4, 9, 14, 15, 16, 17] [4, 9, 14, 15, 16, 17] (by kernel_rfl) (by kernel_rfl) (by kernel_rfl) HG.out ?_
  simp only [pickOps, List.filterMap_cons, List.filterMap_nil, List.getElem?_toArray, List.getElem?_cons_zero, List.getElem?_cons_succ, Option.map_some]
  repeat (refine seqH_read (v := ?_) (by rfl) (by rfl) ?_ ?_; rotate_left; (focus (intro W hS; (try dsimp only at hS); have s1 : W.cell? ⟨g, 0, none⟩ = some (.slice av D.length cap) := cell_of_blk hS; have s2 : W.cell? ⟨g, 1, none⟩ = some (.map (some bc)) := cell_of_blk hS; have s3 : W.cell? ⟨g, 2, none⟩ = some (.map (some ba)) := cell_of_blk hS; go_simp; try with_reducible rfl)); simp only [Act.put, List.setIfInBounds_toArray, List.set_cons_zero, List.set_cons_succ])
  refine seqH_eff (by rfl) (by rfl) fun K hK => ?_
  refine wp_callC 87 #[.slice av D.length cap] (by go_simp) (R := fun v w' => ∃ av' cap' bd', v = .slice av' D.length cap' ∧ D.length ≤ cap' ∧ w.heap.size ≤ bd' ∧ DurAt w' av' bd' D ∧ Fr (fun _ => False) w w')
    ((sclone_calls av bd cap D w.drew H.out.ok (HD.out.fr ((Fr.refl (fun _ => False) w).drew) (fun _ h => h))).mono (by rintro e w' ⟨av', cap', bd', rfl, h1, h2, h3, h4⟩; exact ⟨_, rfl, av', cap', bd', rfl, h1, h2, h3, h4.undrew⟩)) ?_
  rintro v w1 ⟨av', cap', bd', rfl, hcap', hbd', d1, f1⟩
  have b1 := (f1.block _ hglt (fun h => h)).trans HG.out
  refine hK.out _ _ b1 ?_
  simp only [Act.put, List.setIfInBounds_toArray, List.set_cons_zero, List.set_cons_succ]
  refine seqH_eff (by rfl) (by rfl) fun K hK => ?_
  have A1 := H.out.cache.same (f1.block _ H.out.cache.lt (fun h => h))
  refine wp_callC 88 #[.map (some bc)] (by go_simp) (R := fun v w' => v = .map (some w1.heap.size) ∧ At w' w1.heap.size (cacheF D) ∧ Fr (fun _ => False) w1 w') (mcloneA_calls bc _ w1 A1) ?_
  rintro v w2 ⟨rfl, a2, f2⟩
  have b2 := (f2.block _ (lt_of_blk b1) (fun h => h)).trans b1
  refine hK.out _ _ b2 ?_
  simp only [Act.put, List.setIfInBounds_toArray, List.set_cons_zero, List.set_cons_succ]
  refine seqH_eff (by rfl) (by rfl) fun K hK => ?_
  have A2 := H.out.armed.same ((f2.block _ (Nat.lt_of_lt_of_le H.out.armed.lt f1.size) (fun h => h)).trans (f1.block _ H.out.armed.lt (fun h => h)))
  refine wp_callC 89 #[.map (some ba)] (by go_simp) (R := fun v w' => v = .map (some w2.heap.size) ∧ At w' w2.heap.size (armF D) ∧ Fr (fun _ => False) w2 w') (mcloneB_calls ba _ w2 A2) ?_
  rintro v w3 ⟨rfl, a3, f3⟩
  have b3 := (f3.block _ (lt_of_blk b2) (fun h => h)).trans b2
  refine hK.out _ _ b3 ?_
  simp only [Act.put, List.setIfInBounds_toArray, List.set_cons_zero, List.set_cons_succ]
  refine seqH_eff (by rfl) (by rfl) fun K hK => ?_
  have D1 := Lib.hid d1; clear d1
  have A2' := Lib.hid a2; clear a2
  have A3' := Lib.hid a3; clear a3
  have B3 := Lib.hid b3; clear b3
  clear b1 b2 A1 A2
  unfold Oper.wp
  go_simp
  refine hK.out _ _ B3.out ?_
  refine seqH_eff (by rfl) (by rfl) fun K hK => ?_
  refine wp_box 119 _ rfl rfl ?_
  intro w4 b4 f4 z4
  have B4 := Lib.hid b4; clear b4
  refine hK.out _ _ ((f4.block _ (lt_of_blk B3.out) (fun h => h)).trans B3.out) ?_
  simp only [Act.put, List.setIfInBounds_toArray, List.set_cons_zero, List.set_cons_succ]
  refine seqH_eff (by rfl) (by rfl) fun K hK => ?_
  unfold Oper.wp
  go_simp
  refine hK.out _ _ ((f4.block _ (lt_of_blk B3.out) (fun h => h)).trans B3.out) ?_
  refine seqH_nil ?_
  have h1 := f1.size
  have h2 := A2'.out.lt
  have h3 := A3'.out.lt
  have h23 := f3.size
  have DD : DiskAt w4 w3.heap.size bd' w1.heap.size w2.heap.size D := ⟨H.out.ok, ⟨av', cap', B4.out, hcap', ((D1.out.fr f2 (fun _ h => h)).fr f3 (fun _ h => h)).fr f4 (fun _ h => h)⟩,
    A2'.out.same ((f4.block _ (by omega) (fun h => h)).trans (f3.block _ h2 (fun h => h))), A3'.out.same (f4.block _ h3 (fun h => h)), by omega⟩
  have HDD := Lib.hid DD; clear DD
  have FF := Lib.hid (((f1.trans f2).trans f3).trans f4)
  have S1 := Lib.hid (show w.heap.size ≤ w1.heap.size ∧ w.heap.size ≤ w2.heap.size ∧ w.heap.size ≤ w3.heap.size from by have := f2.size; omega)
  have S2 := Lib.hid hbd'
  clear f1 f2 f3 f4 h1 h2 h3 h23 hbd' hcap' z4
  go_wp2_with fail
  go_ret
  exact ⟨w3.heap.size, bd', w1.heap.size, w2.heap.size, rfl, HDD.out, FF.out, S2.out, S1.out.1, S1.out.2.1, S1.out.2.2⟩

end Go.Proofs.Ytmbkmfpnjpkakaa
