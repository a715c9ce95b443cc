/- The program's disk: New. -/
import Derived.Test.YtmbkmfpnjpkakaaD3
namespace Go.Proofs.Ytmbkmfpnjpkakaa
open Go.RowKit Go.Im Go.Dsk0

theorem info126i : (Try.prog.info? 126).map (fun i => (i.zero, i.size, i.bytes)) = some (some (.agg z64), 64, 64) := by kernel_rfl
theorem u115 : Try.prog.underlying 115 = some (.slice 126) := by kernel_rfl

/-- A new slice of n zero elements. -/
theorem im_make {P : Program} {ops : Array Oper} {rest : List Oper} {o : Oper} {a : Act} {w : World} {Q : Exit → Act → World → Prop} (hg : o.guard = none) (t : TypeId) (l c : Operand) (hop : o.op = Op.makeSlice t l c) {e : TypeId} (ht : P.underlying t = some (.slice e))
    {i : TypeInfo} (hi : P.info? e = some i) {z : Value} (hz : i.zero = some z) (n : Nat) {L C : Int} (hl : a.eval l = .int .i64 L) (hc : a.eval c = .int .i64 C) (hL : L = n) (hC : C = n) (hb : i.bytes * n ≤ 281474976710656) (hn : n ≤ 9223372036854775807)
    (hK : ∀ w', w'.heap[w.heap.size]? = some (.cells (madeCells z.cells (n * i.size)) e (0, 0)) → Fr (fun _ => False) w w' → w'.heap.size = w.heap.size + 1 → wpList P ops Q rest (a.put o.dst (.slice (some ⟨w.heap.size, 0, none⟩) n n)) w') :
    wpList P ops Q (o :: rest) a w := by
  subst hL; subst hC
  refine wpList_plain hg fun K' hK' => ?_
  have hrun := run_make (P := P) w t e i z ht hi hz .i64 .i64 n n (by omega) (Int.le_refl _) (by
    have : ((i.bytes * n : Nat) : Int) ≤ 281474976710656 := by omega
    rwa [Int.natCast_mul] at this) (by omega)
  simp only [Int.toNat_natCast] at hrun
  unfold Oper.wp
  simp only [execOp, hop, hl, hc, Sem.run_bind, hrun, Result.andThen_ok, Sem.run_pure]
  exact hK' _ _ (hK _ (heap_alloc_new w _) ((Fr.refl _ _).alloc _) (by simp))

/-- A new map. -/
theorem im_makeMap {P : Program} {ops : Array Oper} {rest : List Oper} {o : Oper} {a : Act} {w : World} {Q : Exit → Act → World → Prop} (hg : o.guard = none) (t : TypeId) (hop : o.op = Op.makeMap t none)
    (hK : ∀ w', At w' w.heap.size (fun _ => none) → Fr (fun _ => False) w w' → w'.heap.size = w.heap.size + 1 → wpList P ops Q rest (a.put o.dst (.map (some w.heap.size))) w') :
    wpList P ops Q (o :: rest) a w := by
  refine wpList_plain hg fun K' hK' => ?_
  unfold Oper.wp
  simp only [execOp, hop, Instr.makeMap, Option.map_none, Sem.run_bind, run_newObj, Result.andThen_ok, Sem.run_pure]
  exact hK' _ _ (hK (w.alloc (.map #[] 0)) ⟨#[], 0, heap_alloc_new w _, Reads.empty 0⟩ ((Fr.refl _ _).alloc _) (by simp))

/-- A new block for a struct. -/
theorem im_box {P : Program} {ops : Array Oper} {rest : List Oper} {o : Oper} {a : Act} {w : World} {Q : Exit → Act → World → Prop} (hg : o.guard = none) (t : TypeId) (x : Operand) (hop : o.op = Op.box t x) {v : Value} (hx : a.eval x = v)
    (hK : ∀ w', w'.heap[w.heap.size]? = some (.cells v.cells t (0, 0)) → Fr (fun _ => False) w w' → w'.heap.size = w.heap.size + 1 → wpList P ops Q rest (a.put o.dst (.pointer (some ⟨w.heap.size, 0, none⟩))) w') :
    wpList P ops Q (o :: rest) a w := by
  refine wpList_plain hg fun K' hK' => ?_
  unfold Oper.wp
  simp only [execOp, hop, hx, Instr.box, newVar, newRow, Sem.run_bind, run_newObj, Result.andThen_ok, Sem.run_pure]
  exact hK' _ _ (hK (w.alloc _) (heap_alloc_new w _) ((Fr.refl _ _).alloc _) (by simp))

theorem new_length (n : Int) : ((new n).length : Int) = max 0 (min n 65536) := by simp [new]

theorem z64_get (m : Nat) (h : m < 64) : z64[m]? = some (B 0) := by unfold z64; rw [cellsB_get, List.getElem?_replicate, if_pos h]; rfl
theorem zeros_get (m : Nat) (h : m < 64) : zeros[m]? = some 0 := by unfold zeros; rw [List.getElem?_replicate, if_pos h]
theorem madeCells_get (n j : Nat) (h : j < n * 64) : (madeCells z64 (n * 64))[j]? = some (B 0) := by
  unfold madeCells
  rw [Array.getElem?_map, Array.getElem?_range, if_pos h]
  have h1 : j % z64.size < z64.size := Nat.mod_lt _ (by rw [z64_size]; omega)
  have h2 : z64[j % z64.size]? = some (B 0) := z64_get _ (by rw [z64_size]; omega)
  simp only [Option.map_some]
  rw [getElem!_pos z64 _ h1]
  rw [Array.getElem?_eq_getElem h1] at h2
  exact h2

/-- What New has laid is a new disk. -/
theorem new_disk {w : World} {g bd bc ba cap : Nat} {n : Int} {k : Nat} (hk : k = (new n).length) (hg : w.heap[g]? = some (.cells #[.slice (some ⟨bd, 0, none⟩) k cap, .map (some bc), .map (some ba)] 119 (0, 0))) (hcap : k ≤ cap)
    (hb : w.heap[bd]? = some (.cells (madeCells z64 (k * 64)) 126 (0, 0))) (hc : At w bc (fun _ => none)) (ha : At w ba (fun _ => none)) (hne : bc ≠ ba) : DiskAt w g bd bc ba (new n) := by
  have hnone : ∀ (G : Sec → Option Value), G ⟨zeros, none, none⟩ = none → secF G (new n) = fun _ => none := by
    intro G hG
    funext x
    unfold secF
    split
    · unfold new
      rw [List.getElem?_replicate]
      split
      · simpa using hG
      · rfl
    · rfl
  refine ⟨Ok.new n, ⟨some ⟨bd, 0, none⟩, cap, by rw [← hk]; exact hg, by rw [← hk]; exact hcap, .inr ⟨rfl, _, hb, by rw [← hk, size_madeCells]; exact Nat.le_refl _, ?_⟩⟩, ?_, ?_, hne⟩
  · intro i s hs j hj
    have hi : i < k := by rw [hk]; exact (List.getElem?_eq_some_iff.1 hs).1
    have hse : s = ⟨zeros, none, none⟩ := by
      unfold new at hs
      rw [List.getElem?_replicate] at hs
      split at hs
      · exact (Option.some.inj hs).symm
      · cases hs
    have hlt : i * 64 + j < k * 64 := by
      have : (i + 1) * 64 ≤ k * 64 := Nat.mul_le_mul_right 64 hi
      omega
    rw [madeCells_get k _ hlt, hse]
    rw [zeros_get j hj]; rfl
  · rw [cacheF_eq, hnone _ rfl]; exact hc
  · rw [armF_eq, hnone _ rfl]; exact ha

set_option maxRecDepth 100000 in
theorem new_calls (n : Int) (w : World) :
    Calls Try.prog 24 #[.int .i64 n] w fun e w' => ∃ g bd bc ba, e = .returned (.pointer (some ⟨g, 0, none⟩)) ∧ DiskAt w' g bd bc ba (new n) ∧ Fr (fun _ => False) w w' ∧ w.heap.size ≤ bd ∧ w.heap.size ≤ bc ∧ w.heap.size ≤ ba ∧ w.heap.size ≤ g := by
  obtain ⟨k, hk⟩ : ∃ k : Nat, k = (new n).length := ⟨_, rfl⟩
  have hkn : (k : Int) = max 0 (min n 65536) := by rw [hk]; exact new_length n
  have hkl : k ≤ 65536 := by omega
  have HK := Lib.hid hk; clear hk
  have HKN := Lib.hid hkn; clear hkn
  obtain ⟨i0, hi, hz0, hz1, hz2⟩ := info_parts info126i
  have hcase : n < 0 ∨ 65536 < n ∨ (0 ≤ n ∧ n ≤ 65536) := by omega
  rcases hcase with h | h | ⟨h, h'⟩
  all_goals
    have HZ := Lib.hid hz1; clear hz1
    have HZ2 := Lib.hid hz2; clear hz2
    go_enter Try.func24, Try.ntmps24
    go_wp2_with (first
      | (refine im_make rfl 115 _ _ rfl u115 hi hz0 k rfl rfl (by have := HKN.out; omega) (by have := HKN.out; omega) (by rw [HZ2.out]; omega) (by omega) ?_; intro w1 b1 f1 z1; have B1 := Lib.hid b1; clear b1; have Z1 := Lib.hid z1; clear z1)
      | (refine im_makeMap rfl 116 rfl ?_; intro w2 b2 f2 z2; have B2 := Lib.hid b2; clear b2; have Z2 := Lib.hid z2; clear z2)
      | (refine im_makeMap rfl 117 rfl ?_; intro w3 b3 f3 z3; have B3 := Lib.hid b3; clear b3; have Z3 := Lib.hid z3; clear z3)
      | (refine im_box rfl 119 _ rfl rfl ?_; intro w4 b4 f4 z4; have B4 := Lib.hid b4; clear b4; have Z4 := Lib.hid z4; clear z4))
    go_ret
    have z1 := Z1.out
    have z2 := Z2.out
    have z3 := Z3.out
    have b1 := B1.out
    rw [HZ.out] at b1
    refine ⟨_, _, _, _, rfl, new_disk HK.out B4.out (Nat.le_refl _) ((f4.block _ (by omega) (fun h => h)).trans ((f3.block _ (by omega) (fun h => h)).trans ((f2.block _ (by omega) (fun h => h)).trans b1)))
      (B2.out.same ((f4.block _ (by omega) (fun h => h)).trans (f3.block _ (by omega) (fun h => h)))) (B3.out.same (f4.block _ (by omega) (fun h => h))) (by omega), ((f1.trans f2).trans f3).trans f4, ?_, ?_, ?_, ?_⟩
    all_goals omega

end Go.Proofs.Ytmbkmfpnjpkakaa
