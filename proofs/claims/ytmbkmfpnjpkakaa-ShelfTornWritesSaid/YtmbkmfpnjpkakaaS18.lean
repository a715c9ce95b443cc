/- The shelf laws' helpers: Text, Small, built without a script. -/
import Derived.Test.YtmbkmfpnjpkakaaS17
namespace Go.Shf0
/-- An operation of a script. -/
structure SOp where
  kind : Int
  at_ : Place
  tgt : Place
  n : Int
  fill : UInt8
  size : Int
  picks : List Int
/-- The bytes of a write. -/
def byteAt (fill : UInt8) (k : Nat) : UInt8 := fill + UInt8.ofNat (k % 3)
def text (o : SOp) : List UInt8 := (List.range (max 0 (min o.size 100)).toNat).map (byteAt o.fill)
def small (c : Cfg) : Bool := decide (c.disks ≤ 6 ∧ c.log ≤ 24 ∧ c.image ≤ 24 ∧ c.rows ≤ 24 ∧ sectors c ≤ 24)
end Go.Shf0
namespace Go.Proofs.Ytmbkmfpnjpkakaa
open Go.RowKit Go.Im Go.Dsk0

/-- An operation's cells. -/
def sopC (o : Shf0.SOp) (pv : Value) : Array Value :=
  #[.int .i64 o.kind, .int .i64 o.at_.disk, .int .i64 o.at_.area, .int .i64 o.at_.index, .int .i64 o.tgt.disk, .int .i64 o.tgt.area, .int .i64 o.tgt.index, .int .i64 o.n, B o.fill, .int .i64 o.size, pv]
theorem sopC_cells {w : World} {b : Nat} {o : Shf0.SOp} {pv : Value} {t : TypeId} {fr : Nat × Nat} (h : w.heap[b]? = some (.cells (sopC o pv) t fr)) :
    w.cell? ⟨b, 0, none⟩ = some (.int .i64 o.kind) ∧ w.cell? ⟨b, 1, none⟩ = some (.int .i64 o.at_.disk) ∧ w.cell? ⟨b, 2, none⟩ = some (.int .i64 o.at_.area) ∧ w.cell? ⟨b, 3, none⟩ = some (.int .i64 o.at_.index) ∧ w.cell? ⟨b, 4, none⟩ = some (.int .i64 o.tgt.disk) ∧ w.cell? ⟨b, 5, none⟩ = some (.int .i64 o.tgt.area) ∧ w.cell? ⟨b, 6, none⟩ = some (.int .i64 o.tgt.index) ∧ w.cell? ⟨b, 7, none⟩ = some (.int .i64 o.n) ∧ w.cell? ⟨b, 8, none⟩ = some (B o.fill) ∧ w.cell? ⟨b, 9, none⟩ = some (.int .i64 o.size) ∧ w.cell? ⟨b, 10, none⟩ = some pv :=
  ⟨cell_of_blk h, cell_of_blk h, cell_of_blk h, cell_of_blk h, cell_of_blk h, cell_of_blk h, cell_of_blk h, cell_of_blk h, cell_of_blk h, cell_of_blk h, cell_of_blk h⟩
theorem mt70s : Try.prog.underlying 70 = some (.slice 5) := u70
theorem mt5s : Try.prog.underlying 5 = some (.int .u8) := u5
theorem mt9s : Try.prog.underlying 9 = some .string := u9

theorem byte_add (fill : UInt8) (r : Nat) (_ : r < 3) : IntKind.u8.wrap ((fill.toNat : Int) + (r : Int)) = ((fill + UInt8.ofNat r).toNat : Int) := by
  have hf := fill.toNat_lt
  simp only [IntKind.wrap, IntKind.bits, IntKind.signed, Bool.false_and, Bool.false_eq_true, if_false, UInt8.toNat_add, UInt8.toNat_ofNat']
  omega

set_option maxRecDepth 100000 in
set_option maxHeartbeats 1000000 in
theorem text17_calls (o : Shf0.SOp) (pv : Value) (w : World) : Calls Try.prog 54 #[.agg (sopC o pv)] w fun e w' => e = .returned (.string ⟨(Shf0.text o).toArray⟩) ∧ Fr (fun _ => False) w w' := by
  obtain ⟨n, hn⟩ : ∃ n : Nat, max 0 (min o.size 100) = (n : Int) := ⟨(max 0 (min o.size 100)).toNat, by omega⟩
  have hn1 : n ≤ 100 := by omega
  have htx : Shf0.text o = (List.range n).map (Shf0.byteAt o.fill) := by unfold Shf0.text; rw [hn]; rfl
  rw [htx]
  clear htx
  obtain ⟨sz, hsz⟩ : ∃ sz, sz = o.size := ⟨_, rfl⟩
  rw [← hsz] at hn
  obtain ⟨fi, hfi⟩ : ∃ fi, fi = o.fill := ⟨_, rfl⟩
  rw [← hfi]
  obtain ⟨i0, hi, hy0, hy1, hy2⟩ := info_parts info5
  have HY1 := Lib.hid hy1; clear hy1
  have HY2 := Lib.hid hy2; clear hy2
  have hb0 : (0 : Int) ≤ fi.toNat := by omega
  obtain ⟨fz, hfz⟩ : ∃ fz : Int, fz = fi.toNat := ⟨_, rfl⟩
  have HFZ := Lib.hid hfz
  have hpick : ∀ (W : World) (b : Nat) (t : TypeId) (fr : Nat × Nat), W.heap[b]? = some (.cells (sopC o pv) t fr) → W.cell? ⟨b, 8, none⟩ = some (.int .u8 fz) ∧ W.cell? ⟨b, 9, none⟩ = some (.int .i64 sz) := fun W b t fr h => by
    obtain ⟨-, -, -, -, -, -, -, -, h8, h9, -⟩ := sopC_cells h
    rw [← hfi] at h8
    rw [← hsz] at h9
    exact ⟨by rw [hfz]; exact h8, h9⟩
  have HPK := Lib.hid hpick
  obtain ⟨A, hA⟩ : ∃ A, A = sopC o pv := ⟨_, rfl⟩
  rw [← hA] at HPK ⊢
  clear hpick hA hsz hfi hfz hb0
  go_enter Try.func54, Try.ntmps54
  go_wp2_with (first
    | (refine im_box rfl 90 _ rfl rfl ?_; intro w1 b1 f1 z1; have Z1 := Lib.hid z1; clear z1; obtain ⟨p8, p9⟩ := HPK.out _ _ _ _ b1; have hl1 := lt_of_blk b1; clear b1)
    | (refine im_make rfl 70 _ _ rfl mt70s hi hy0 n rfl rfl rfl rfl (by rw [HY2.out]; omega) (by omega) ?_; intro w2 b2 f2 z2; rw [HY1.out] at b2; have B2 := Lib.hid b2; clear b2; have Z2 := Lib.hid z2; clear z2; have p8' := (f2.cb hl1 (fun h => h)).trans p8))
  have hw1 := f1.size
  have f12 := f1.trans f2
  have hne1 : w.heap.size ≠ w1.heap.size := by have := Z1.out; omega
  have hl2 := lt_of_blk B2.out
  have hl1' := Nat.lt_of_lt_of_le hl1 f2.size
  clear f1 f2 p8 p9
  go_loopg [4] n (fun m t wr => ∃ (k : Nat) (cs : Array Value), m + k = n ∧ t = .int .i64 k ∧ wr.heap[w1.heap.size]? = some (.cells cs 5 (0, 0)) ∧ cs.size = n ∧ (∀ j, j < k → cs[j]? = some (B (Shf0.byteAt fi j))) ∧ Fr (fun q => q = w1.heap.size) w2 wr)
  case atStart => exact ⟨0, _, rfl, rfl, B2.out, by rw [size_madeCells]; omega, fun j hj => by omega, Fr.refl _ _⟩
  case round =>
    obtain ⟨k, cs, hm, rfl, hb, hcs, hall, hfr⟩ := hrel
    have HM := Lib.hid hm; clear hm
    have HB := Lib.hid hb; clear hb
    have HA := Lib.hid hall; clear hall
    have p8r := (hfr.cb hl1' hne1).trans p8'
    by_cases hk : k < n
    · have hks : k < cs.size := by omega
      obtain ⟨r, hr⟩ : ∃ r, r = k % 3 := ⟨_, rfl⟩
      have hr1 : (k : Int) % 3 = (r : Int) := by omega
      have hr2 : ((k : Int).tmod 3) = (r : Int) := by rw [Int.tmod_eq_emod_of_nonneg (by omega)]; exact hr1
      have hr3 : r < 3 := by omega
      have hr4 : IntKind.u8.wrap (r : Int) = (r : Int) := by
        have : r = 0 ∨ r = 1 ∨ r = 2 := by omega
        rcases this with h | h | h <;> rw [h] <;> rfl
      have hr5 : IntKind.u8.wrap (fz + (r : Int)) = ((Shf0.byteAt fi k).toNat : Int) := by rw [HFZ.out, byte_add fi r hr3]; unfold Shf0.byteAt; rw [hr]
      have hr0 : (0 : Int) ≤ r := by omega
      have HR := Lib.hid hr; clear hr
      obtain ⟨X, hX⟩ : ∃ X : Int, X = ((Shf0.byteAt fi k).toNat : Int) := ⟨_, rfl⟩
      rw [← hX] at hr5
      have HX := Lib.hid hX; clear hX
      go_wp2_with (first
        | (refine im_store1 rfl 5 _ _ rfl (v := .int .u8 X) rfl rfl rfl (by kernel_rfl) HB.out hks ?_; intro w4 b4 f4 z4; have B4 := Lib.hid b4; clear b4; clear z4))
      have hn : gk + k = n := HM.out
      go_roundg (gk - 1)
      case measure => omega
      case rel =>
        refine ⟨k + 1, _, by omega, by go_num, B4.out, by simpa using hcs, fun j hj => ?_, hfr.trans f4⟩
        by_cases hjk : j = k
        · subst hjk; rw [Array.getElem?_setIfInBounds_self_of_lt hks, HX.out]; rfl
        · rw [Array.getElem?_setIfInBounds_ne (fun e => hjk e.symm)]; exact HA.out j (by omega)
    · have hkn : k = n := by have := HM.out; omega
      go_wp2_with (first
        | (refine im_back rfl 70 9 _ rfl rfl mt70s mt5s mt9s HB.out (l := (List.range n).map (Shf0.byteAt fi)) (by simp) (fun j x hx => by
            rw [List.getElem?_map] at hx
            cases hj : (List.range n)[j]? with
            | none => simp [hj] at hx
            | some q =>
              have hq := List.getElem?_eq_some_iff.1 hj
              simp at hq
              rw [hj] at hx
              injection hx with hx
              rw [HA.out j (by omega), ← hx, hq.2]) ?_))
      go_ret
      exact ⟨rfl, f12.trans' hfr (fun _ _ h => h) (fun i hi h => by omega)⟩
end Go.Proofs.Ytmbkmfpnjpkakaa
