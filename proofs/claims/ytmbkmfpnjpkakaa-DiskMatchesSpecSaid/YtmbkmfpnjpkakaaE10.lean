/- The law helper same: the program's disk and the reference disk read alike. -/
import Derived.Test.YtmbkmfpnjpkakaaE9
namespace Go.Proofs.Ytmbkmfpnjpkakaa
open Go.RowKit Go.Im Go.Dsk0

theorem RefAt.keep {w w' : World} {g bl : Nat} {D : Dsk} (h : RefAt w g bl D) (f : Fr (fun _ => False) w w') : RefAt w' g bl D := h.fr f (fun h => h) (fun _ h => h) (fun _ _ _ _ h => h)

set_option maxRecDepth 100000 in
set_option maxHeartbeats 2000000 in
theorem dsame_calls (g bd bc ba h bl : Nat) (D : Dsk) (w : World) (hd : DiskAt w g bd bc ba D) (hr : RefAt w h bl D) :
    Calls Try.prog 26 #[.pointer (some ⟨g, 0, none⟩), .pointer (some ⟨h, 0, none⟩)] w fun e w' => e = .returned (.bool true) ∧ Fr (fun _ => False) w w' := by
  obtain ⟨av, cap, c0, c1, c2, hg, hcap, hdd⟩ := hd.open_
  obtain ⟨av2, cap2, e0, hg2, hcap2, hd2⟩ := hr.open_
  have hlen := hd.ok.len
  have hpl : (pendI D).length ≤ 9223372036854775807 := by
    unfold pendI pend
    rw [List.length_map]
    have := List.length_filter_le (pends D) (List.range D.length)
    simp at this; omega
  have HPL := Lib.hid hpl; clear hpl
  have hglt := lt_of_blk hg
  have hhlt := lt_of_blk hg2
  have HD := Lib.hid hd; clear hd
  have HR := Lib.hid hr; clear hr
  clear hg hdd hg2 hd2 c1 c2 hcap hcap2
  have hne : ((D.length : Int) != (D.length : Int)) = false := by simp
  go_enter Try.func26, Try.ntmps26
  go_wp2_with fail
  refine wp_region_seq (fun W => W.cell? ⟨h, 0, none⟩ = some (.slice av2 D.length cap2)) [0, 1, 2, 3, 5, 6, 7, 8, 9, 4, 10, 11, 12, 13, 15, 14, 16, 17, 18, 19] [4, 14, 16, 17] (by kernel_rfl) (by kernel_rfl) (by kernel_rfl) e0 ?_
  simp only [pickOps, List.filterMap_cons, List.filterMap_nil, List.getElem?_toArray, List.getElem?_cons_zero, List.getElem?_cons_succ, Option.map_some]
  repeat (refine seqH_read (v := ?_) (by rfl) (by rfl) ?_ ?_; rotate_left; (focus (intro W hS; (try dsimp only at hS); go_simp; try with_reducible rfl)); simp only [Act.put, List.setIfInBounds_toArray, List.set_cons_zero, List.set_cons_succ])
  refine seqH_eff (by rfl) (by rfl) fun K hK => ?_
  refine wp_callC 29 #[.pointer (some ⟨g, 0, none⟩)] (by go_simp) (R := fun v w' => v = .int .i64 (D.length : Int) ∧ w' = w.drew) ((len_any g D.length cap av w.drew c0).mono (by rintro e w' ⟨rfl, rfl⟩; exact ⟨_, rfl, rfl, rfl⟩)) ?_
  rintro v w1 ⟨rfl, rfl⟩
  refine hK.out _ _ e0 ?_
  simp only [Act.put, List.setIfInBounds_toArray, List.set_cons_zero, List.set_cons_succ]
  repeat (refine seqH_read (v := ?_) (by rfl) (by rfl) ?_ ?_; rotate_left; (focus (intro W hS; (try dsimp only at hS); go_simp; try with_reducible rfl)); simp only [Act.put, List.setIfInBounds_toArray, List.set_cons_zero, List.set_cons_succ])
  refine seqH_eff (by rfl) (by rfl) fun K hK => ?_
  refine wp_callC 36 #[.pointer (some ⟨g, 0, none⟩)] (by go_simp) (R := fun v w' => w'.ownsRow w.heap.size 3 1 v (pendI D).length ((pendI D).map encZ) ∧ Fr (fun _ => False) w w') ((pending_calls g bd bc ba D w.drew (HD.out.keep (Fr.refl _ w).drew)).mono (by rintro e w' ⟨v, rfl, hrow, hf⟩; exact ⟨_, rfl, hrow, hf.undrew⟩)) ?_
  rintro v1 w1 ⟨r1, f1⟩
  have R1 := Lib.hid r1; clear r1
  refine hK.out _ _ ((f1.cb hhlt (fun h => h)).trans e0) ?_
  simp only [Act.put, List.setIfInBounds_toArray, List.set_cons_zero, List.set_cons_succ]
  refine seqH_eff (by rfl) (by rfl) fun K hK => ?_
  refine wp_callC 71 #[.pointer (some ⟨h, 0, none⟩)] (by go_simp) (R := fun v w' => w'.ownsRow w1.heap.size 3 1 v (pendI D).length ((pendI D).map encZ) ∧ Fr (fun _ => False) w1 w') ((rpending_calls h bl D w1 (HR.out.keep f1)).mono (by rintro e w' ⟨v, rfl, hrow, hf⟩; exact ⟨_, rfl, hrow, hf⟩)) ?_
  rintro v2 w2 ⟨r2, f2⟩
  have I2 := Lib.hid (IntsAt.of_row (ok := fun _ => True) r2 (fun _ _ _ => trivial) HPL.out); clear r2
  have I1 := Lib.hid ((IntsAt.of_row (ok := fun _ => True) R1.out (fun _ _ _ => trivial) HPL.out).fr f2 (fun _ _ _ h => h))
  have f12 := f1.trans f2
  refine hK.out _ _ ((f12.cb hhlt (fun h => h)).trans e0) ?_
  simp only [Act.put, List.setIfInBounds_toArray, List.set_cons_zero, List.set_cons_succ]
  refine seqH_eff (by rfl) (by rfl) fun K hK => ?_
  refine wp_callC 44 #[v1, v2] (by go_simp) (R := fun v w' => v = .bool true ∧ Fr (fun _ => False) w2 w') ((same_calls v1 v2 _ _ w2 I1.out I2.out).mono (by rintro e w' ⟨rfl, hf⟩; exact ⟨_, rfl, by simp, hf⟩)) ?_
  rintro v w3 ⟨rfl, f3⟩
  have f13 := f12.trans f3
  refine hK.out _ _ ((f13.cb hhlt (fun h => h)).trans e0) ?_
  simp only [Act.put, List.setIfInBounds_toArray, List.set_cons_zero, List.set_cons_succ]
  repeat (refine seqH_read (v := ?_) (by rfl) (by rfl) ?_ ?_; rotate_left; (focus (intro W hS; (try dsimp only at hS); go_simp; try with_reducible rfl)); simp only [Act.put, List.setIfInBounds_toArray, List.set_cons_zero, List.set_cons_succ])
  refine seqH_nil ?_
  have F13 := Lib.hid f13
  clear f1 f2 f12 f3 f13 R1 I1 I2 hK
  go_wp2_with fail
  go_loopg [5] (D.length + 2) (fun m t wr => ∃ k : Nat, m + k = D.length + 2 ∧ t = .int .i64 ((k : Int) - 1) ∧ Fr (fun _ => False) w wr)
  case atStart => exact ⟨0, rfl, rfl, F13.out⟩
  case round =>
    obtain ⟨k, hm, rfl, hfr⟩ := hrel
    have HM := Lib.hid hm; clear hm
    have e0r : wr.cell? ⟨h, 0, none⟩ = some (.slice av2 D.length cap2) := (hfr.cb hhlt (fun h => h)).trans e0
    by_cases hk : k < D.length + 2
    · obtain ⟨i, hi⟩ : ∃ i : Int, i = (k : Int) - 1 := ⟨_, rfl⟩
      rw [← hi]
      have i1 : i ≤ D.length := by omega
      have i2 : -1 ≤ i := by omega
      have HI := Lib.hid hi; clear hi
      obtain ⟨X, hX⟩ : ∃ X : ByteArray, X = ⟨(Dsk0.read D i).1.toArray⟩ := ⟨_, rfl⟩
      obtain ⟨E, hE⟩ : ∃ E, E = (Dsk0.read D i).2 := ⟨_, rfl⟩
      have hXX : (X.toList == X.toList) = true := by simp
      have hXX' : (X.toList != X.toList) = false := by simp
      have hEE : (E != E) = false := by simp
      go_wp2_with fail
      refine (read_calls g bd bc ba D i _ (HD.out.keep hfr)).mono ?_; rintro e w4 ⟨rfl, f4⟩
      rw [← hX, ← hE]
      go_wp2_with fail
      refine (rread_calls h bl D i _ (HR.out.keep (hfr.trans f4))).mono ?_; rintro e w5 ⟨rfl, f5⟩
      rw [← hX, ← hE]
      have e05 : w5.cell? ⟨h, 0, none⟩ = some (.slice av2 D.length cap2) := ((f4.trans f5).cb (Nat.lt_of_lt_of_le hhlt hfr.size) (fun h => h)).trans e0r
      have F5 := Lib.hid (hfr.trans (f4.trans f5))
      have HX := Lib.hid hX; clear hX
      have HE := Lib.hid hE; clear hE
      clear f4 f5
      go_wp2_with fail
      have hn : gk + k = D.length + 2 := HM.out
      go_roundg (gk - 1)
      case measure => omega
      case rel => exact ⟨k + 1, by omega, by rw [HI.out]; go_num, F5.out⟩
    · have hn := HM.out
      have hkn : k = D.length + 2 := by omega
      subst hkn
      go_wp2_with fail
      go_ret
      exact ⟨rfl, hfr⟩
end Go.Proofs.Ytmbkmfpnjpkakaa
