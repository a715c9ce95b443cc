/- The reference disk: New. -/
import Derived.Test.YtmbkmfpnjpkakaaE7
import Derived.Test.YtmbkmfpnjpkakaaA6
namespace Go.Im
open Go
section
variable {P : Program} {ops : Array Oper} {Q : Exit → Act → World → Prop}
/-- A new slice of n zero elements, inside a region. -/
theorem wp_make {o : Oper} {a : Act} {w : World} {K : Act → World → Prop} (t : TypeId) (l c : Operand) (hop : o.op = Op.makeSlice t l c) {e : TypeId} (ht : P.underlying t = some (.slice e))
    {i : TypeInfo} (hi : P.info? e = some i) {z : Value} (hz : i.zero = some z) (n : Nat) {L C : Int} (hl : a.eval l = .int .i64 L) (hc : a.eval c = .int .i64 C) (hL : L = n) (hC : C = n) (hb : i.bytes * n ≤ 281474976710656) (hn : n ≤ 9223372036854775807)
    (hK : ∀ w', w'.heap[w.heap.size]? = some (.cells (madeCells z.cells (n * i.size)) e (0, 0)) → Fr (fun _ => False) w w' → w'.heap.size = w.heap.size + 1 → K (a.put o.dst (.slice (some ⟨w.heap.size, 0, none⟩) n n)) w') :
    o.wp P a w K Q := by
  subst hL; subst hC
  have hrun := run_make (P := P) w t e i z ht hi hz .i64 .i64 n n (by omega) (Int.le_refl _) (by
    have : ((i.bytes * n : Nat) : Int) ≤ 281474976710656 := by omega
    rwa [Int.natCast_mul] at this) (by omega)
  simp only [Int.toNat_natCast] at hrun
  unfold Oper.wp
  simp only [execOp, hop, hl, hc, Sem.run_bind, hrun, Result.andThen_ok, Sem.run_pure]
  exact hK _ (heap_alloc_new w _) ((Fr.refl _ _).alloc _) (by simp)

/-- One element of several cells appended to a row that the call has made: which block may have turned. -/
theorem wp_append_one {o : Oper} {a : Act} {w : World} {K : Act → World → Prop} (s x : Operand) (t : TypeId) (hop : o.op = .call { callee := .builtin .append, args := #[s, x], argTypes := #[t, t] })
    (base : Nat) {e : TypeId} {i : TypeInfo} {z : Value} {size bytes : Nat} (ht : P.underlying t = some (.slice e)) (hi : P.info? e = some i) (hz : i.zero = some z)
    (hsize : i.size = size) (hby : i.bytes = bytes) (hzs : z.cells.size = size) (hsz : 0 < size)
    {v : Value} {n : Nat} {xs : List Value} (hs : a.eval s = v) (hown : w.ownsRow base e size v n xs)
    {b c : Nat} {cs : Array Value} {te : TypeId} (hx : a.eval x = .slice (some ⟨b, 0, none⟩) 1 c) (hb : w.heap[b]? = some (.cells cs te (0, 0))) (hl : cs.size = size) (h1 : ∀ u ∈ cs.toList, u.oneCell' = true)
    (h63 : n + 1 ≤ maxLen) (hbytes : (n + 1) * bytes ≤ 140737488355328) (hbase : base ≤ w.heap.size)
    (h : ∀ v' w', w'.ownsRow base e size v' (n + 1) (xs ++ cs.toList) → Fr (fun k => some k = v.ownBlock) w w' → K (a.put o.dst v') w') : o.wp P a w K Q :=
  wp_append_own w s x t hop base e i z size bytes ht hi hz hsize hby hzs hsz v n xs hs hown ⟨b, 0, none⟩ 1 c cs.toList hx (by simp [hl]) (fun j u hj => by
    have e1 : (⟨b, 0, none⟩ : Addr).add j = ⟨b, j, none⟩ := by simp [Addr.add]; omega
    rw [e1, cell_of_blk hb]; simpa using hj) h1 h63 hbytes hbase fun v' w' h2 h3 _ => h v' w' h2 (Fr.of_grown h3)
end
end Go.Im
namespace Go.Proofs.Ytmbkmfpnjpkakaa
open Go.RowKit Go.Im Go.Dsk0

/-- The cells of a new sector. -/
def secC (d : Value) : List Value := [d, .slice none 0 0, .bool false, .int .i64 (-2)]
theorem secC_get : ∀ (vs : List Value) (i u : Nat), u < 4 → (vs.flatMap secC)[i * 4 + u]? = (vs[i]?).bind fun d => (secC d)[u]?
  | [], i, u, _ => by simp
  | d :: vs, 0, u, hu => by
    rw [List.flatMap_cons, Nat.zero_mul, Nat.zero_add, List.getElem?_append_left (by simpa [secC] using hu)]; rfl
  | d :: vs, i + 1, u, hu => by
    rw [List.flatMap_cons, List.getElem?_append_right (by simp [secC]; omega)]
    have : (i + 1) * 4 + u - (secC d).length = i * 4 + u := by simp [secC]; omega
    rw [this, secC_get vs i u hu]; rfl
theorem secC_len (vs : List Value) : (vs.flatMap secC).length = vs.length * 4 := by
  induction vs with
  | nil => rfl
  | cons d vs ih => rw [List.flatMap_cons, List.length_append, ih]; simp [secC]; omega
theorem info124 : (Try.prog.info? 124).map (fun i => (i.zero, i.size, i.bytes)) = some (some (.agg #[.slice none 0 0, .slice none 0 0, .bool false, .int .i64 0]), 4, 64) := by kernel_rfl
theorem mt120 : Try.prog.underlying 120 = some (.slice 124) := by kernel_rfl

/-- New bytes are zeros. -/
theorem BytesAt.made {w : World} {b : Nat} (hb : w.heap[b]? = some (.cells (madeCells (Value.int .u8 0).cells (64 * 1)) 5 (0, 0))) : BytesAt w (.slice (some ⟨b, 0, none⟩) 64 64) zeros := by
  refine ⟨b, 64, _, (0, 0), rfl, by simp [zeros], hb, fun j x hx => ?_⟩
  have hj : j < 64 := by
    have := (List.getElem?_eq_some_iff.1 hx).1
    simpa [zeros] using this
  rw [zeros_get j hj] at hx
  injection hx with hx; subst hx
  simp [madeCells, Value.cells, hj, B, Nat.mod_one]

/-- Rows of new sectors are a new disk. -/
theorem RefAt.fresh {w : World} {g base k : Nat} {v : Value} {vs : List Value} (hk : k ≤ 65536) (hg : w.heap[g]? = some (.cells #[v] 122 (0, 0))) (ho : w.ownsRow base 124 4 v k (vs.flatMap secC)) (hl : vs.length = k) (hv : ∀ d ∈ vs, BytesAt w d zeros) :
    ∃ bl, base ≤ bl ∧ RefAt w g bl (List.replicate k ⟨zeros, none, none⟩) := by
  have hok : Ok (List.replicate k ⟨zeros, none, none⟩) := by
    refine ⟨fun s hs => ?_, fun s hs c hc => ?_, fun s hs t ht => ?_, by simpa using hk⟩
    · obtain ⟨_, rfl⟩ := List.mem_replicate.1 hs; simp [zeros]
    · obtain ⟨_, rfl⟩ := List.mem_replicate.1 hs; cases hc
    · obtain ⟨_, rfl⟩ := List.mem_replicate.1 hs; cases ht
  obtain ⟨h1, h2 | ⟨gb, vc, cur, h2, h3, h4, h5, h6, h7, h8⟩⟩ := ho
  · refine ⟨base, Nat.le_refl _, hok, none, 0, ?_, by rw [h2.2]; simp, .inl (by rw [h2.2]; rfl)⟩
    rw [hg, h2.1, List.length_replicate, h2.2]
  · refine ⟨gb, h3, hok, _, vc, by rw [List.length_replicate, hg, h2], by rw [List.length_replicate]; omega, .inr ⟨rfl, cur, h4, by rw [List.length_replicate]; omega, fun i s hs => ?_⟩⟩
    rw [List.getElem?_replicate] at hs
    split at hs
    · rename_i hik
      injection hs with hs; subst hs
      obtain ⟨d, hd⟩ : ∃ d, vs[i]? = some d := ⟨_, List.getElem?_eq_getElem (by omega)⟩
      have hc : ∀ u, u < 4 → cur[i * 4 + u]? = (secC d)[u]? := fun u hu => by
        have : (cur.toList.take (k * 4))[i * 4 + u]? = (secC d)[u]? := by rw [h8, secC_get vs i u hu, hd]; rfl
        rw [List.getElem?_take_of_lt (by omega)] at this
        simpa using this
      exact ⟨⟨d, hc 0 (by omega), hv d (List.mem_of_getElem? hd)⟩, ⟨_, hc 1 (by omega), fun c hc => by cases hc⟩, hc 2 (by omega), hc 3 (by omega)⟩
    · cases hs

/-- What New answers. -/
def RNew (n : Int) (w : World) (e : Ending) (w' : World) : Prop := ∃ bl, e = .returned (.pointer (some ⟨w.heap.size, 0, none⟩)) ∧ w.heap.size < bl ∧ RefAt w' w.heap.size bl (new n) ∧ Fr (fun _ => False) w w'

set_option maxRecDepth 100000 in
set_option maxHeartbeats 1000000 in
theorem rnew_calls (n : Int) (w : World) : Calls Try.prog 25 #[.int .i64 n] w fun e w' => RNew n w e w' := by
  obtain ⟨N, hN⟩ : ∃ N : Nat, N = (max 0 (min n 65536)).toNat := ⟨_, rfl⟩
  have hnew : new n = List.replicate N ⟨zeros, none, none⟩ := by unfold new; rw [hN]
  have HNEW := Lib.hid hnew; clear hnew
  have hN1 : N ≤ 65536 := by omega
  have hNk : ∀ k : Nat, k < N ↔ (k : Int) < n ∧ (k : Int) < 65536 := fun k => by omega
  have HN := Lib.hid hNk; clear hNk hN
  obtain ⟨i0, hi, hz0, hz1, hz2⟩ := info_parts info124
  obtain ⟨j0, hj, hy0, hy1, hy2⟩ := info_parts info5
  have HY1 := Lib.hid hy1; clear hy1
  have HY2 := Lib.hid hy2; clear hy2
  go_enter Try.func25, Try.ntmps25
  go_wp2_with fail
  obtain ⟨W0, hW0⟩ : ∃ W0, W0 = w.alloc (.cells #[.slice none 0 0] 122) := ⟨_, rfl⟩
  have b0 : W0.heap[w.heap.size]? = some (.cells #[.slice none 0 0] 122 (0, 0)) := by rw [hW0]; exact heap_alloc_new w _
  have f0 : Fr (fun _ => False) w W0 := by rw [hW0]; exact (Fr.refl _ _).alloc _
  have z0 : W0.heap.size = w.heap.size + 1 := by rw [hW0]; simp
  rw [← hW0]
  clear hW0
  have B0 := Lib.hid b0; clear b0
  go_loopg [4] N (fun m t wr => ∃ (k : Nat) (v : Value) (vs : List Value), m + k = N ∧ t = .int .i64 k ∧ wr.heap[w.heap.size]? = some (.cells #[v] 122 (0, 0)) ∧ wr.ownsRow (w.heap.size + 1) 124 4 v k (vs.flatMap secC) ∧ vs.length = k ∧ (∀ d ∈ vs, BytesAt wr d zeros) ∧ Fr (fun q => w.heap.size ≤ q) W0 wr)
  case atStart => exact ⟨0, _, [], rfl, rfl, B0.out, World.ownsRow_nil _ _ _ _, rfl, (fun d hd => nomatch hd), Fr.refl _ _⟩
  case round =>
    obtain ⟨k, v, vs, hm, rfl, hg, hown, hvl, hvs, hfr⟩ := hrel
    have HM := Lib.hid hm; clear hm
    have HG := Lib.hid hg; clear hg
    have HO := Lib.hid hown; clear hown
    have HV := Lib.hid hvs; clear hvs
    have HVL := Lib.hid hvl; clear hvl
    have hrs := hfr.size
    have hNk := HN.out k
    by_cases hk : k < N
    · obtain ⟨h1, h2⟩ := hNk.1 hk
      clear hNk
      have cv : wr.cell? ⟨w.heap.size, 0, none⟩ = some v := cell_of_blk HG.out
      go_wp2_with fail
      refine wp_region_seqF (fun W => W.cell? ⟨w.heap.size, 0, none⟩ = some v) [0, 1, 2, 3, 4, 5, 6, 7, 8, 9, 10, 11] [5, 7, 8, 11] 11 (by kernel_rfl) (by kernel_rfl) (by kernel_rfl) ?_
      simp only [pickOps, List.filterMap_cons, List.filterMap_nil, List.getElem?_toArray, List.getElem?_cons_zero, List.getElem?_cons_succ, Option.map_some]
      repeat (refine seqF_read (v := ?_) (by rfl) (by rfl) cv ?_ ?_; rotate_left; (focus (intro W hS; (try dsimp only at hS); go_simp; try with_reducible rfl)); simp only [Act.put, List.setIfInBounds_toArray, List.set_cons_zero, List.set_cons_succ])
      refine seqF_eff (by rfl) (by rfl) fun K hK => ?_
      refine wp_make 70 _ _ rfl mt70 hj hy0 64 rfl rfl rfl rfl (by rw [HY2.out]; omega) (by omega) ?_
      intro w1 b1 f1 z1
      rw [HY1.out] at b1
      replace f1 := f1.undrew
      have d1 := Lib.hid (BytesAt.made b1)
      have g1 := Lib.hid ((f1.block _ (lt_of_blk HG.out) (fun h => h)).trans HG.out)
      have o1 := Lib.hid (row_keep HO.out f1)
      have v1 := Lib.hid (fun d hd => (HV.out d hd).fr f1 (fun _ _ _ _ h => h))
      have cv1 : w1.cell? ⟨w.heap.size, 0, none⟩ = some v := cell_of_blk g1.out
      clear b1
      have hzz := Lib.hid z1; clear z1
      refine hK.out _ _ (fun _ => cv1) ?_
      simp only [Act.put, List.setIfInBounds_toArray, List.set_cons_zero, List.set_cons_succ]
      repeat (refine seqF_read (v := ?_) (by rfl) (by rfl) cv1 ?_ ?_; rotate_left; (focus (intro W hS; (try dsimp only at hS); go_simp; try with_reducible rfl)); simp only [Act.put, List.setIfInBounds_toArray, List.set_cons_zero, List.set_cons_succ])
      refine seqF_eff (by rfl) (by rfl) fun K hK => ?_
      unfold Oper.wp
      go_simp
      obtain ⟨w2, hw2⟩ : ∃ w2, w2 = w1.alloc (.cells #[.slice (some ⟨wr.heap.size, 0, none⟩) 64 64, .slice none 0 0, .bool false, .int .i64 (-2)] 124) := ⟨_, rfl⟩
      have b2 : w2.heap[w1.heap.size]? = some (.cells #[.slice (some ⟨wr.heap.size, 0, none⟩) 64 64, .slice none 0 0, .bool false, .int .i64 (-2)] 124 (0, 0)) := by rw [hw2]; exact heap_alloc_new w1 _
      have f2 : Fr (fun _ => False) w1 w2 := by rw [hw2]; exact (Fr.refl _ _).alloc _
      rw [← hw2]
      clear hw2
      have d2 := Lib.hid (d1.out.fr f2 (fun _ _ _ _ h => h))
      have g2 := Lib.hid ((f2.block _ (lt_of_blk g1.out) (fun h => h)).trans g1.out)
      have o2 := Lib.hid (row_keep o1.out f2)
      have v2 := Lib.hid (fun d hd => (v1.out d hd).fr f2 (fun _ _ _ _ h => h))
      have cv2 : w2.cell? ⟨w.heap.size, 0, none⟩ = some v := cell_of_blk g2.out
      have hB2 := Lib.hid b2; clear b2
      refine hK.out _ _ (fun _ => cv2) ?_
      have hs1 := f1.size
      have hs2 := f2.size
      refine seqF_eff (by rfl) (by rfl) fun K hK => ?_
      refine wp_append_one _ _ 120 rfl (w.heap.size + 1) mt120 hi hz0 hz1 hz2 rfl (by decide) rfl o2.out rfl hB2.out rfl (by simp [Value.oneCell']) (by unfold maxLen; omega) (by omega) (by omega) ?_
      intro v' w3 o3 f3
      have own_ne : ∀ q, some q = v.ownBlock → w.heap.size + 1 ≤ q := fun q hq => row_block o2.out hq
      have own_ty : noBytes w2 (fun q => some q = v.ownBlock) := fun b cs fr hb hq => by
        obtain ⟨-, h2 | ⟨gb, vc, cur, h2, h3, h4, -⟩⟩ := o2.out
        · rw [h2.1] at hq; cases hq
        · rw [h2] at hq
          injection hq with hq
          subst hq
          rw [h4] at hb; injection hb with hb; injection hb with _ hb _; exact absurd hb (by decide)
      have g3 := Lib.hid ((f3.block _ (lt_of_blk g2.out) (fun h => by have := own_ne _ h; omega)).trans g2.out)
      have d3 := Lib.hid (d2.out.fr f3 own_ty)
      have v3 := Lib.hid (fun d hd => (v2.out d hd).fr f3 own_ty)
      have f3' : Fr (fun q => w.heap.size ≤ q) w2 w3 := f3.mono fun q _ h => by have := own_ne _ h; omega
      have O3 := Lib.hid o3; clear o3
      have cv3 : w3.cell? ⟨w.heap.size, 0, none⟩ = some v := cell_of_blk g3.out
      clear own_ne own_ty
      refine hK.out _ _ (fun _ => cv3) ?_
      simp only [Act.put, List.setIfInBounds_toArray, List.set_cons_zero, List.set_cons_succ]
      repeat (refine seqF_read (v := ?_) (by rfl) (by rfl) cv3 ?_ ?_; rotate_left; (focus (intro W hS; (try dsimp only at hS); go_simp; try with_reducible rfl)); simp only [Act.put, List.setIfInBounds_toArray, List.set_cons_zero, List.set_cons_succ])
      refine seqF_eff (by rfl) (by rfl) fun K hK => ?_
      have hv1 : v'.oneCell' = true := by
        obtain ⟨-, h2 | ⟨gb, vc, cur, h2, -⟩⟩ := O3.out
        · rw [h2.1]; rfl
        · rw [h2]; rfl
      refine wp_store1 120 _ _ rfl (v := v') rfl rfl hv1 (by kernel_rfl) g3.out (by simp) ?_
      intro w4 b4 f4 z4
      have B4 := Lib.hid b4; clear b4
      refine hK.out _ _ (fun h => absurd rfl h) ?_
      refine seqF_nil ?_
      have ff : Fr (fun q => w.heap.size ≤ q) wr w4 := ((f1.none.trans f2.none).trans f3').trans (f4.mono fun q _ h => by omega)
      have hny : noBytes w3 (fun q => q = w.heap.size) := noBytes_row g3.out (by decide)
      have hV4 : ∀ d ∈ vs ++ [Value.slice (some ⟨wr.heap.size, 0, none⟩) 64 64], BytesAt w4 d zeros := fun d hd => by
        rcases List.mem_append.1 hd with hd | hd
        · exact (v3.out d hd).fr f4 hny
        · have e : d = .slice (some ⟨wr.heap.size, 0, none⟩) 64 64 := by simpa using hd
          rw [e]; exact d3.out.fr f4 hny
      have HV4 := Lib.hid hV4; clear hV4
      have ho4 : w4.ownsRow (w.heap.size + 1) 124 4 v' (k + 1) ((vs ++ [Value.slice (some ⟨wr.heap.size, 0, none⟩) 64 64]).flatMap secC) := by
        rw [List.flatMap_append]
        exact row_fr O3.out f4 (fun q hq _ h => by omega)
      have HO4 := Lib.hid ho4; clear ho4
      clear hK cv cv1 cv2 cv3 HV HO HG d1 g1 o1 v1 d2 g2 o2 v2 hB2 f3 f3' f4 g3 d3 v3 O3 f1 f2 hv1 hny
      go_wp2_with fail
      have hn : gk + k = N := HM.out
      go_roundg (gk - 1)
      case measure => omega
      case rel => exact ⟨k + 1, v', _, by omega, by go_num, B4.out, HO4.out, by simp; exact HVL.out, HV4.out, hfr.trans ff⟩
    · have hkn : k = N := by have := HM.out; omega
      have hno : ¬ ((k : Int) < n ∧ (k : Int) < 65536) := fun h => hk (hNk.2 h)
      have hfin : ∃ bl, w.heap.size + 1 ≤ bl ∧ RefAt wr w.heap.size bl (List.replicate N ⟨zeros, none, none⟩) := RefAt.fresh hN1 HG.out (by rw [← hkn]; exact HO.out) (by rw [HVL.out, hkn]) HV.out
      have HF := Lib.hid hfin; clear hfin
      have ff : Fr (fun _ => False) w wr := f0.trans' hfr (fun _ _ h => h) (fun i hi h => by omega)
      clear hNk
      by_cases h1 : (k : Int) < n
      · have hk5 : k = 65536 := by
          have : ¬ (k : Int) < 65536 := fun h => hno ⟨h1, h⟩
          omega
        have hci : (k : Int) = 65536 := by omega
        have FF := Lib.hid ff
        clear hno hN1 hkn z0 hrs hfr ff HM hk HG HO HV HVL HN B0 f0 hk5
        rw [hci] at h1 ⊢
        go_wp2_with fail
        go_ret
        obtain ⟨bl, hbl, hr⟩ := HF.out
        exact ⟨bl, rfl, by omega, by rw [HNEW.out]; exact hr, FF.out⟩
      · clear hno
        go_wp2_with fail
        go_ret
        obtain ⟨bl, hbl, hr⟩ := HF.out
        exact ⟨bl, rfl, by omega, by rw [HNEW.out]; exact hr, ff⟩
end Go.Proofs.Ytmbkmfpnjpkakaa
