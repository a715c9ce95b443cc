/- The law helper do: one operation of a script on the program's disk. -/
import Derived.Test.YtmbkmfpnjpkakaaL2
import Derived.Test.YtmbkmfpnjpkakaaA4
namespace Go.Proofs.Ytmbkmfpnjpkakaa
open Go.RowKit Go.Im Go.Dsk0

theorem fr_pre {S : Nat → Prop} {w w' : World} {o : Obj} (h : Fr S (w.alloc o) w') : Fr S w w' := ((Fr.refl S w).alloc o).trans h

theorem DiskAt.lts' {w : World} {g bd bc ba : Nat} {D : Dsk} (h : DiskAt w g bd bc ba D) (hbd : bd < w.heap.size) (k : Nat) (hk : w.heap.size ≤ k) : ¬ foot bd bc ba k := by
  have h1 := h.cache.lt
  have h2 := h.armed.lt
  unfold foot; omega

/-- A disk's durable block may be taken to exist. -/
theorem DiskAt.norm {w : World} {g bd bc ba : Nat} {D : Dsk} (h : DiskAt w g bd bc ba D) : ∃ bd', DiskAt w g bd' bc ba D ∧ bd' < w.heap.size ∧ (bd' = bd ∨ bd' = bc) := by
  by_cases hD : D = []
  · subst hD
    obtain ⟨h1, ⟨av, cap, h2, h3, h4⟩, h5, h6, h7⟩ := h
    exact ⟨bc, ⟨h1, ⟨av, cap, h2, h3, .inl rfl⟩, h5, h6, h7⟩, h5.lt, .inr rfl⟩
  · refine ⟨bd, h, ?_, .inl rfl⟩
    obtain ⟨_, _, _, _, hd⟩ := h.head
    rcases hd with hd | ⟨_, cs, hb, _⟩
    · exact absurd hd hD
    · exact lt_of_blk hb

set_option maxRecDepth 100000 in
set_option maxHeartbeats 1000000 in
theorem do_write (g bd bc ba : Nat) (D : Dsk) (w : World) (h : DiskAt w g bd bc ba D) (hbd : bd < w.heap.size) (o : DOp) (pv : Value) (hk : o.kind = 1) :
    Calls Try.prog 27 #[.pointer (some ⟨g, 0, none⟩), opV o pv] w fun e w' => e = .returned (.int .i64 (write D o.i (text o)).1) ∧ DiskAt w' g bd bc ba (write D o.i (text o)).2 ∧ Fr (foot bd bc ba) w w' := by
  obtain ⟨kind, i, j, fill, size, picks⟩ := o
  change kind = 1 at hk
  subst hk
  have HF := h.lts' hbd _ (Nat.le_refl _)
  have H := Lib.hid (h.fr ((Fr.refl (fun _ => False) w).alloc (.cells #[.int .i64 1, .int .i64 i, .int .i64 j, B fill, .int .i64 size, pv] 48)) (fun h => h) (fun _ h => h) (fun h => h) (fun h => h)); clear h
  obtain ⟨fz, hfz⟩ : ∃ fz : Value, fz = B fill := ⟨_, rfl⟩
  obtain ⟨T, hT⟩ : ∃ T, T = text ⟨1, i, j, fill, size, picks⟩ := ⟨_, rfl⟩
  rw [← hT]
  have hcall : ∀ W : World, Calls Try.prog 37 #[.agg #[.int .i64 1, .int .i64 i, .int .i64 j, fz, .int .i64 size, pv]] W fun e w' => e = .returned (.string ⟨T.toArray⟩) ∧ Fr (fun _ => False) W w' := fun W => by
    rw [hfz, hT]; exact text_calls ⟨1, i, j, fill, size, picks⟩ pv W
  have HC := Lib.hid hcall; clear hcall
  unfold opV
  rw [← hfz] at H ⊢
  clear hfz hT
  go_enter Try.func27, Try.ntmps27
  go_wp2_with fail
  refine wp_region_seq (fun W => W.heap[w.heap.size]? = some (.cells #[.int .i64 1, .int .i64 i, .int .i64 j, fz, .int .i64 size, pv] 48 (0, 0))) [0, 1, 2, 3, 4, 5, 6] [4, 5, 6] (by kernel_rfl) (by kernel_rfl) (by kernel_rfl) (heap_alloc_new w _) ?_
  simp only [pickOps, List.filterMap_cons, List.filterMap_nil, List.getElem?_toArray, List.getElem?_cons_zero, List.getElem?_cons_succ, Option.map_some]
  repeat (refine seqH_read (v := ?_) (by rfl) (by rfl) ?_ ?_; rotate_left; (focus (intro W hS; (try dsimp only at hS); have s1 : W.cell? ⟨w.heap.size, 0, none⟩ = some (.int .i64 1) := cell_of_blk hS; have s2 : W.cell? ⟨w.heap.size, 1, none⟩ = some (.int .i64 i) := cell_of_blk hS; have s3 : W.cell? ⟨w.heap.size, 2, none⟩ = some (.int .i64 j) := cell_of_blk hS; have s4 : W.cell? ⟨w.heap.size, 3, none⟩ = some fz := cell_of_blk hS; have s5 : W.cell? ⟨w.heap.size, 4, none⟩ = some (.int .i64 size) := cell_of_blk hS; have s6 : W.cell? ⟨w.heap.size, 5, none⟩ = some pv := cell_of_blk hS; go_simp; try with_reducible rfl)); simp only [Act.put, List.setIfInBounds_toArray, List.set_cons_zero, List.set_cons_succ])
  obtain ⟨W0, hW0⟩ : ∃ W0, W0 = w.alloc (.cells #[.int .i64 1, .int .i64 i, .int .i64 j, fz, .int .i64 size, pv] 48) := ⟨_, rfl⟩
  have b0 : W0.heap[w.heap.size]? = some (.cells #[.int .i64 1, .int .i64 i, .int .i64 j, fz, .int .i64 size, pv] 48 (0, 0)) := by rw [hW0]; exact heap_alloc_new w _
  have f0 : Fr (foot bd bc ba) w W0 := by rw [hW0]; exact (Fr.refl _ _).alloc _
  have hfoot : ¬ foot bd bc ba w.heap.size := HF
  rw [← hW0] at H ⊢
  clear hW0
  refine seqH_eff (by rfl) (by rfl) fun K hK => ?_
  refine wp_callC 37 #[.agg #[.int .i64 1, .int .i64 i, .int .i64 j, fz, .int .i64 size, pv]] (by go_simp) (R := fun v w' => v = .string ⟨T.toArray⟩ ∧ Fr (fun _ => False) W0.drew w') ((HC.out W0.drew).mono (by rintro e w' ⟨rfl, hf⟩; exact ⟨_, rfl, rfl, hf⟩)) ?_
  rintro v w1 ⟨rfl, f1⟩
  replace f1 := f1.undrew
  have b1 := (f1.block _ (lt_of_blk b0) (fun h => h)).trans b0
  have D1 := Lib.hid (H.out.fr f1 (fun h => h) (fun _ h => h) (fun h => h) (fun h => h))
  refine hK.out _ _ b1 ?_
  simp only [Act.put, List.setIfInBounds_toArray, List.set_cons_zero, List.set_cons_succ]
  refine seqH_eff (by rfl) (by rfl) fun K hK => ?_
  refine wp_callC 39 #[.pointer (some ⟨g, 0, none⟩), .int .i64 i, .string ⟨T.toArray⟩] (by go_simp) (R := fun v w' => v = .int .i64 (write D i T).1 ∧ DiskAt w' g bd bc ba (write D i T).2 ∧ Fr (foot bd bc ba) w1 w') ((write_calls g bd bc ba D i ⟨T.toArray⟩ w1 D1.out).mono (by rintro e w' ⟨rfl, hd, hf⟩; exact ⟨_, rfl, rfl, hd, hf⟩)) ?_
  rintro v w2 ⟨rfl, d2, f2⟩
  have b2 := (f2.block _ (lt_of_blk b1) hfoot).trans b1
  refine hK.out _ _ b2 ?_
  simp only [Act.put, List.setIfInBounds_toArray, List.set_cons_zero, List.set_cons_succ]
  refine seqH_eff (by rfl) (by rfl) fun K hK => ?_
  have D2 := Lib.hid d2; clear d2
  unfold Oper.wp
  go_simp
  refine hK.out _ _ b2 ?_
  refine seqH_nil ?_
  go_wp2_with fail
  go_ret
  exact ⟨rfl, D2.out, (f0.trans (f1.mono (fun _ _ h => h.elim))).trans f2⟩


set_option maxRecDepth 100000 in
set_option maxHeartbeats 1000000 in
theorem do_rest (g bd bc ba : Nat) (D : Dsk) (w : World) (h : DiskAt w g bd bc ba D) (hbd : bd < w.heap.size) (o : DOp) (pv : Value) (hp : IntsAt w pv o.picks (fun b => ¬ foot bd bc ba b)) (hk : ¬ o.kind = 1) :
    Calls Try.prog 27 #[.pointer (some ⟨g, 0, none⟩), opV o pv] w fun e w' => e = .returned (.int .i64 (doOp D o).1) ∧ DiskAt w' g bd bc ba (doOp D o).2 ∧ Fr (foot bd bc ba) w w' := by
  obtain ⟨kind, i, j, fill, size, picks⟩ := o
  change ¬ kind = 1 at hk
  change IntsAt w pv picks _ at hp
  obtain ⟨fz, hfz⟩ : ∃ fz : Value, fz = B fill := ⟨_, rfl⟩
  unfold opV
  rw [← hfz]
  clear hfz
  have HF := h.lts' hbd _ (Nat.le_refl _)
  have ff : Fr (fun _ => False) w (w.alloc (.cells #[.int .i64 kind, .int .i64 i, .int .i64 j, fz, .int .i64 size, pv] 48)) := (Fr.refl (fun _ => False) w).alloc _
  have H := Lib.hid (h.fr ff (fun h => h) (fun _ h => h) (fun h => h) (fun h => h)); clear h
  have HP := Lib.hid (hp.fr ff (fun _ _ _ h => h)); clear hp
  have FF := Lib.hid (ff.mono (T := foot bd bc ba) (fun _ _ h => h.elim)); clear ff
  unfold doOp
  simp only
  rw [if_neg hk]
  have hb1 : (kind == 1) = false := by simp [hk]
  clear hk
  by_cases h2 : kind = 2
  · subst h2
    rw [if_pos rfl]
    go_enter Try.func27, Try.ntmps27
    go_wp2_with fail
    refine (flush_calls g bd bc ba D _ H.out).mono ?_; rintro e w1 ⟨rfl, d1, f1⟩
    have D1 := Lib.hid d1; clear d1
    go_wp2_with fail
    go_ret
    exact ⟨rfl, D1.out, FF.out.trans f1⟩
  rw [if_neg h2]
  have hb2 : (kind == 2) = false := by simp [h2]
  clear h2
  by_cases h3 : kind = 3
  · subst h3
    rw [if_pos rfl]
    go_enter Try.func27, Try.ntmps27
    go_wp2_with fail
    refine (cut_calls g bd bc ba D _ H.out pv picks HP.out).mono ?_; rintro e w1 ⟨rfl, d1, f1⟩
    have D1 := Lib.hid d1; clear d1
    go_wp2_with fail
    go_ret
    exact ⟨rfl, D1.out, FF.out.trans f1⟩
  rw [if_neg h3]
  have hb3 : (kind == 3) = false := by simp [h3]
  clear h3
  by_cases h4 : kind = 4
  · subst h4
    rw [if_pos rfl]
    go_enter Try.func27, Try.ntmps27
    go_wp2_with fail
    refine (rot_calls g bd bc ba D i j _ H.out).mono ?_; rintro e w1 ⟨rfl, d1, f1⟩
    have D1 := Lib.hid d1; clear d1
    go_wp2_with fail
    go_ret
    exact ⟨rfl, D1.out, FF.out.trans f1⟩
  rw [if_neg h4]
  have hb4 : (kind == 4) = false := by simp [h4]
  clear h4
  by_cases h5 : kind = 5
  · subst h5
    rw [if_pos rfl]
    go_enter Try.func27, Try.ntmps27
    go_wp2_with fail
    refine (lose_calls g bd bc ba D i _ H.out).mono ?_; rintro e w1 ⟨rfl, d1, f1⟩
    have D1 := Lib.hid d1; clear d1
    go_wp2_with fail
    go_ret
    exact ⟨rfl, D1.out, FF.out.trans f1⟩
  rw [if_neg h5]
  have hb5 : (kind == 5) = false := by simp [h5]
  clear h5
  by_cases h6 : kind = 6
  · subst h6
    rw [if_pos rfl]
    go_enter Try.func27, Try.ntmps27
    go_wp2_with fail
    refine (misdirect_calls g bd bc ba D i j _ H.out).mono ?_; rintro e w1 ⟨rfl, d1, f1⟩
    have D1 := Lib.hid d1; clear d1
    go_wp2_with fail
    go_ret
    exact ⟨rfl, D1.out, FF.out.trans f1⟩
  rw [if_neg h6]
  have hb6 : (kind == 6) = false := by simp [h6]
  clear h6
  go_enter Try.func27, Try.ntmps27
  go_wp2_with fail
  go_ret
  exact ⟨rfl, H.out, FF.out⟩

/-- One operation of a script. -/
theorem do_calls (g bd bc ba : Nat) (D : Dsk) (w : World) (h : DiskAt w g bd bc ba D) (hbd : bd < w.heap.size) (o : DOp) (pv : Value) (hp : IntsAt w pv o.picks (fun b => ¬ foot bd bc ba b)) :
    Calls Try.prog 27 #[.pointer (some ⟨g, 0, none⟩), opV o pv] w fun e w' => e = .returned (.int .i64 (doOp D o).1) ∧ DiskAt w' g bd bc ba (doOp D o).2 ∧ Fr (foot bd bc ba) w w' := by
  by_cases hk : o.kind = 1
  · have : doOp D o = write D o.i (text o) := by unfold doOp; rw [if_pos hk]
    rw [this]
    exact do_write g bd bc ba D w h hbd o pv hk
  · exact do_rest g bd bc ba D w h hbd o pv hp hk

end Go.Proofs.Ytmbkmfpnjpkakaa
