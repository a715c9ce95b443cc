/- 'solventlaw16.DiskSizes' answers true for every integer, and its argument reads as before; no condition. -/
import Derived.Test.YtmbkmfpnjpkakaaR0
namespace Go.Proofs.Ytmbkmfpnjpkakaa
open Go.ChangeShapes Go.WideShapes Go.ChangeAt Go.RowKit Go.Im Go.Dsk0

theorem read_out {D : Dsk} {i : Int} (h : has D i = false) : Dsk0.read D i = ([], 1) := by unfold Dsk0.read; rw [if_neg (by rw [h]; decide)]
theorem read_new {n i : Int} (h0 : 0 ≤ i) (h1 : i < (new n).length) : Dsk0.read (new n) i = (rp 0, 0) := by
  unfold Dsk0.read
  rw [if_pos (has_iff.2 ⟨h0, h1⟩)]
  have : (new n)[i.toNat]? = some ⟨zeros, none, none⟩ := by
    unfold new at h1 ⊢
    rw [List.length_replicate] at h1
    rw [List.getElem?_replicate, if_pos (by omega)]
  rw [this]; rfl

set_option maxRecDepth 100000 in
set_option maxHeartbeats 2000000 in
theorem diskSizes_walk (n : Int) (w : World) : Calls Try.prog 5 #[.int .i64 n] w fun e w' => e = .returned (.bool true) ∧ Below w.heap.size w w' := by
  obtain ⟨k, hk⟩ : ∃ k : Nat, max 0 (min n 65536) = (k : Int) := ⟨(max 0 (min n 65536)).toNat, by omega⟩
  have hk6 : k ≤ 65536 := by omega
  have hkl : (new n).length = k := by have := new_length n; omega
  have HKL := Lib.hid hkl; clear hkl
  go_enter Try.func5, Try.ntmps5
  go_wp2_with fail
  refine (new_calls n w).mono ?_; rintro e w1 ⟨g, bd, bc, ba, rfl, d0, f1, hbd, hbc, hba, hg⟩
  obtain ⟨av, cap, c0, -, -, -, -, -⟩ := d0.open_
  have D0 := Lib.hid d0; clear d0
  rw [HKL.out] at c0
  go_wp2_with fail
  refine (len_any g _ _ _ w1 c0).mono ?_; rintro e w' ⟨rfl, rfl⟩
  clear c0
  go_wp2_with fail
  refine (read_calls g bd bc ba (new n) k w1 D0.out).mono ?_; rintro e w2 ⟨rfl, f2⟩
  have D2 := Lib.hid (D0.out.fr f2 (fun h => h) (fun _ h => h) (fun h => h) (fun h => h))
  rw [read_out (show has (new n) k = false by unfold has; rw [HKL.out]; simp)]
  go_wp2_with fail
  by_cases h0 : k = 0
  · subst h0
    refine (read_calls g bd bc ba (new n) _ w2 D2.out).mono ?_; rintro e w3 ⟨rfl, f3⟩
    go_wp2_with fail
    refine (sanity_calls w3).mono ?_; rintro e w4 ⟨rfl, f4⟩
    go_wp2_with fail
    go_ret
    exact ⟨rfl, (((f1.trans f2).trans f3).trans f4).below⟩
  · have hk1 : ((k : Int) == 0) = false := by simp; omega
    have HK1 := Lib.hid h0; clear h0
    refine (read_calls g bd bc ba (new n) _ w2 D2.out).mono ?_; rintro e w3 ⟨rfl, f3⟩
    rw [read_new (n := n) (i := (k : Int) - 1) (by have := HK1.out; omega) (by rw [HKL.out]; omega)]
    rw [show (⟨(rp 0).toArray⟩ : ByteArray) = rps 0 from rfl]
    go_wp2_with fail
    refine (sanity_calls w3).mono ?_; rintro e w4 ⟨rfl, f4⟩
    go_wp2_with fail
    refine (rep_calls 0 w4).mono ?_; rintro e w5 ⟨rfl, f5⟩
    go_wp2_with fail
    go_ret
    exact ⟨rfl, ((((f1.trans f2).trans f3).trans f4).trans f5).below⟩

set_option maxRecDepth 100000 in
theorem diskSizes_lifted (os : Os) (started : os.Started) (H : Type) (enc : TypeId × Value → H) :
    ReturnsInHanded {} Try.checked os 5 .any (Rows.diskSizesSpec.pre6 enc Try.prog Try.f5 Rows.diskSizesRow.domain false) (Rows.diskSizesSpec.post enc Try.prog Try.f5 false true false false) := by
  refine returnsInHanded_of_change (C := Try.checked) own started (by kernel_rfl) Try.func5
    (ChangeSpec.witness6 (enc := enc) (C := Try.checked) false ⟨#[], #[.int .i64 0], []⟩ 8 (by kernel_rfl) (by kernel_rfl) (by kernel_rfl) (by kernel_rfl)) ?_
  intro W base args ds gs before hval0 hW hcnd _
  have hval : ∀ (j : Nat) t v, Try.f5.params[j]? = some t → args[j]? = some v → Value.okWide Try.prog W .any base t v := hval0
  have hW' := hW
  obtain ⟨p, q, hA0, hV, rfl, hfz, hnd⟩ := hW
  have hA : DataW.TrodAll enc Try.prog W 0 (fun _ => true) true Try.f5.params.toList args.toList ds p := hA0
  rw [Try.params5] at hA hval
  obtain ⟨v0, vs0, d0, ds0, p0, q0, hargs, rfl, rfl, h0, r0⟩ := trodAll_cons hA
  obtain ⟨rfl, rfl, rfl⟩ := trodAll_nil r0
  obtain rfl : args = #[v0] := by cases args; simp_all
  obtain ⟨rfl, rfl⟩ := trodVars_none hV
  obtain ⟨a0, rfl, rfl, rfl, w0⟩ := open_int Try.underlying3 (hval 0 3 v0 rfl rfl) h0
  clear hA0 hval0
  refine (diskSizes_walk a0 W).mono fun e W' ⟨he, hb⟩ => ?_
  subst he
  exact ⟨_, rfl, law_post laidOut Try.underlying4 hW' rfl rfl (by kernel_rfl) ⟨rfl, rfl, rfl⟩ hb⟩

/-- The statement. -/
theorem diskSizes_proved : Rows.DiskSizesSaid :=
  OpenClaim.holds_of_wide 5 Try.f5 rfl rfl rfl rfl rfl rfl rfl ⟨rfl, rfl, rfl, rfl, rfl⟩ rfl rfl rfl rfl rfl (by kernel_rfl) Try.func5 (by kernel_rfl)
    (of_decide_eq_true (by kernel_rfl)) (by unfold Func.isWrapper; first | (rw [if_pos (by decide +kernel)]; kernel_rfl) | (rw [if_neg (by decide +kernel)]; exact ⟨rfl, rfl⟩))
    (fun os started H enc _ => diskSizes_lifted os started H enc)
#print axioms diskSizes_proved
end Go.Proofs.Ytmbkmfpnjpkakaa
