/- The reference disk: turn, which inverts a bit of some bytes; Rot. -/
import Derived.Test.YtmbkmfpnjpkakaaE3
import Derived.Test.YtmbkmfpnjpkakaaR4
namespace Go.Im
open Go
section
variable {P : Program} {ops : Array Oper} {Q : Exit → Act → World → Prop}
/-- Cells of a block appended to a row that the call has made. -/
theorem im_append_cells {rest : List Oper} {o : Oper} {a : Act} {w : World} (hg : o.guard = none) (s x : Operand) (t : TypeId) (hop : o.op = .call { callee := .builtin .append, args := #[s, x], argTypes := #[t, t] })
    (base : Nat) {e : TypeId} {i : TypeInfo} {z : Value} {bytes : Nat} (ht : P.underlying t = some (.slice e)) (hi : P.info? e = some i) (hz : i.zero = some z)
    (hsize : i.size = 1) (hby : i.bytes = bytes) (hzs : z.cells.size = 1)
    {v : Value} {n : Nat} {xs : List Value} (hs : a.eval s = v) (hown : w.ownsRow base e 1 v n xs)
    {b p m c : Nat} {ys : List Value} (hx : a.eval x = .slice (some ⟨b, p, none⟩) m c) (hl : ys.length = m) (hc : ∀ j u, ys[j]? = some u → w.cell? ⟨b, p + j, none⟩ = some u) (h1 : ∀ u ∈ ys, u.oneCell' = true)
    (h63 : n + m ≤ maxLen) (hbytes : (n + m) * bytes ≤ 140737488355328) (hbase : base ≤ w.heap.size)
    (h : ∀ v' w', w'.ownsRow base e 1 v' (n + m) (xs ++ ys) → Fr (fun k => base ≤ k) w w' → (v' = .slice none 0 0 ↔ v = .slice none 0 0 ∧ m = 0) → wpList P ops Q rest (a.put o.dst v') w') : wpList P ops Q (o :: rest) a w :=
  wpList_append_own w hg s x t hop base e i z 1 bytes ht hi hz hsize hby hzs (by decide) v n xs hs hown ⟨b, p, none⟩ m c ys hx (by simp [hl]) (fun j u hj => by
    have e1 : (⟨b, p, none⟩ : Addr).add j = ⟨b, p + j, none⟩ := by
      unfold Addr.add
      split
      · rename_i h; subst h; rfl
      · rfl
    rw [e1]; exact hc j u hj) h1 h63 hbytes hbase fun v' w' h2 h3 h4 => h v' w' h2 ((Fr.of_grown h3).mono fun k _ hk => row_block hown hk) h4

/-- Two bytes, exclusive or. -/
theorem run_xor_B (tx : TypeId) (u v : UInt8) (w : World) : (binOp .xor tx (B u) (B v)).run P w = .ok (B (u ^^^ v)) w := by
  simp only [B, binOp, Op.intBits]
  have e : (BitVec.ofInt IntKind.u8.bits (u.toNat : Int) ^^^ BitVec.ofInt IntKind.u8.bits (v.toNat : Int)).toNat = (u ^^^ v).toNat := by
    have e1 : BitVec.ofInt IntKind.u8.bits (u.toNat : Int) = u.toBitVec := by
      apply BitVec.eq_of_toNat_eq; simp [IntKind.bits]
    have e2 : BitVec.ofInt IntKind.u8.bits (v.toNat : Int) = v.toBitVec := by
      apply BitVec.eq_of_toNat_eq; simp [IntKind.bits]
    rw [e1, e2]; rfl
  have hlt : (u ^^^ v).toNat < 256 := (u ^^^ v).toNat_lt
  simp only [e, Sem.run_pure, if_neg (by decide : ¬ (IntKind.u8 ≠ IntKind.u8))]
  generalize (u ^^^ v).toNat = m at hlt
  have hw : IntKind.u8.wrap (m : Int) = m := by
    simp only [IntKind.wrap, IntKind.bits, IntKind.signed, Bool.false_and, Bool.false_eq_true, if_false]
    omega
  rw [hw]

/-- An operation that yields a value, its run given. -/
theorem im_yields {rest : List Oper} {o : Oper} {a : Act} {w : World} (hg : o.guard = none) {v : Value} (hr : (execOp a.eval o).run P w = .ok (.value v) w) (h : wpList P ops Q rest (a.put o.dst v) w) : wpList P ops Q (o :: rest) a w := by
  refine wpList_plain hg fun K hK => ?_
  unfold Oper.wp
  rw [hr, Oper.upon_value]
  exact hK _ _ h
end
end Go.Im
namespace Go.Proofs.Ytmbkmfpnjpkakaa
open Go.RowKit Go.Im Go.Dsk0

theorem wrap_twice {k : Nat} (h : k < 7) : IntKind.u8.wrap (2 * (2 : Int) ^ k) = (2 : Int) ^ (k + 1) := by
  have : k = 0 ∨ k = 1 ∨ k = 2 ∨ k = 3 ∨ k = 4 ∨ k = 5 ∨ k = 6 := by omega
  rcases this with h | h | h | h | h | h | h <;> rw [h] <;> rfl
theorem B_pow {r : Nat} (h : r < 8) : Value.int .u8 ((2 : Int) ^ r) = B ((1 : UInt8) <<< UInt8.ofNat r) := by
  have : r = 0 ∨ r = 1 ∨ r = 2 ∨ r = 3 ∨ r = 4 ∨ r = 5 ∨ r = 6 ∨ r = 7 := by omega
  rcases this with h | h | h | h | h | h | h | h <;> rw [h] <;> rfl

set_option maxRecDepth 100000 in
set_option maxHeartbeats 1000000 in
theorem turn_calls (v : Value) (l : List UInt8) (b : Nat) (w : World) (h : BytesAt w v l) (hl : l.length = 64) (hb : b < 512) :
    Calls Try.prog 102 #[v, .int .i64 b] w fun e w' => ∃ v', e = .returned v' ∧ BytesAt w' v' (flip l b) ∧ Fr (fun _ => False) w w' := by
  obtain ⟨bb, cp, cs, fr, rfl, hcp, hbk, hcs⟩ := h
  rw [hl] at hcp ⊢
  have HCS := Lib.hid hcs; clear hcs
  have HBK := Lib.hid hbk; clear hbk
  obtain ⟨i0, hi, hz0, hz1, hz2⟩ := info_parts info5
  obtain ⟨r, hr⟩ : ∃ r, r = b % 8 := ⟨_, rfl⟩
  have hr1 : ((b : Int).tmod 8) = (r : Int) := by rw [hr, Int.tmod_eq_emod_of_nonneg (by omega)]; omega
  have hr8 : r < 8 := by omega
  have Hr := Lib.hid hr; clear hr
  have HL := Lib.hid hl; clear hl
  go_enter Try.func102, Try.ntmps102
  go_wp2_with (first
    | (at_builtin; refine im_append_cells rfl _ _ 70 rfl w.heap.size u70 hi hz0 hz1 hz2 rfl rfl (World.ownsRow_nil _ _ _ _) rfl (ys := l.map B) (by rw [List.length_map, HL.out]) (fun j u hj => by
        rw [List.getElem?_map] at hj
        cases hx : l[j]? with
        | none => simp [hx] at hj
        | some x => rw [hx] at hj; rw [Nat.zero_add, cell_of_blk HBK.out, HCS.out j x hx]; exact hj) (fun u hu => by obtain ⟨x, _, rfl⟩ := List.mem_map.1 hu; exact B_one x) (by decide) (by decide) (Nat.le_refl _) ?_; intro v1 w1 o1 f1 hn1; have O1 := Lib.hid o1; clear o1; clear hn1))
  have hrow := O1.out
  rw [Nat.zero_add, List.nil_append] at hrow
  obtain ⟨-, h2 | ⟨g1, vc1, cur, rfl, hg1, hb1, hv1, hv2, hv3, hv4⟩⟩ := hrow
  · omega
  have HB1 := Lib.hid hb1; clear hb1
  have hcur : ∀ j, j < 64 → cur[j]? = (l[j]?).map B := fun j hj => by
    have : (cur.toList.take (64 * 1))[j]? = (l.map B)[j]? := by rw [hv4]
    rw [List.getElem?_take_of_lt (by omega), List.getElem?_map] at this
    simpa using this
  have HCUR := Lib.hid hcur; clear hcur hv4 O1
  obtain ⟨q, hq⟩ : ∃ q, q = b / 8 := ⟨_, rfl⟩
  have hq1 : IntKind.i64.wrap ((b : Int) / 8) = (q : Int) := by rw [hq]; exact (IntWalk.i64_in _ (by omega)).trans (by omega)
  have q0 : (0 : Int) ≤ q := by omega
  have q1 : (q : Int) < 64 := by omega
  have Hq := Lib.hid hq; clear hq
  obtain ⟨x0, hx0⟩ : ∃ x0, l[q]? = some x0 := ⟨_, List.getElem?_eq_getElem (by rw [HL.out]; omega)⟩
  have HX0 := Lib.hid hx0; clear hx0
  go_loopg [6, 7] r (fun m v t wr => ∃ k : Nat, m + k = r ∧ v = .int .u8 ((2 : Int) ^ k) ∧ t = .int .i64 k ∧ w1 = wr)
  case atStart => exact ⟨0, rfl, rfl, rfl, rfl⟩
  case round =>
    obtain ⟨k, hm, rfl, rfl, rfl⟩ := hrel
    have HM := Lib.hid hm; clear hm
    by_cases hk : k < r
    · have hw := wrap_twice (k := k) (by omega)
      have hk' : (k : Int) < r := by omega
      go_wp2_with fail
      have hn : gk + k = r := HM.out
      go_roundg (gk - 1)
      case measure => omega
      case rel => exact ⟨k + 1, by omega, by go_num, by go_num, rfl⟩
    · have hkr : k = r := by have := HM.out; omega
      subst hkr
      have hk' : ¬ (k : Int) < k := by omega
      have cx : w1.cell? ⟨g1, q, none⟩ = some (B x0) := by rw [cell_of_blk HB1.out, HCUR.out q (by omega), HX0.out]; rfl
      have hqs : q < cur.size := by omega
      have hxor : (binOp .xor 5 (B x0) (.int .u8 ((2 : Int) ^ k))).run Try.prog w1 = .ok (B (x0 ^^^ ((1 : UInt8) <<< UInt8.ofNat k))) w1 := by rw [B_pow hr8]; exact run_xor_B 5 _ _ w1
      go_wp2_with (first
        | (refine im_store1 rfl 5 _ _ rfl (v := B (x0 ^^^ ((1 : UInt8) <<< UInt8.ofNat k))) rfl rfl (B_one _) (by kernel_rfl) HB1.out hqs ?_; intro w2 b2 f2 z2; have B2 := Lib.hid b2; clear b2; clear z2))
      go_ret
      refine ⟨_, rfl, ⟨g1, vc1, _, _, ?_, ?_, B2.out, fun j y hy => ?_⟩, ?_⟩
      · rw [flip_length, HL.out]; rfl
      · rw [flip_length, HL.out]; exact hv1
      · rw [Hr.out, Hq.out]
        exact flip_cells (by rw [← Hq.out]; exact HX0.out) (fun j hj => HCUR.out j (by rw [← HL.out]; exact hj)) j y hy
      · exact (f1.mono (T := fun i => w.heap.size ≤ i) (fun i _ h => h)).trans' f2 (fun i hi h => by omega) (fun i hi h => by omega)

end Go.Proofs.Ytmbkmfpnjpkakaa
