/- Operations of a script: what one is in memory, what it makes of the plain disk; the law helpers few, Text. -/
import Derived.Test.YtmbkmfpnjpkakaaL0
namespace Go.Dsk0

/-- An operation of a script. -/
structure DOp where
  kind : Int
  i : Int
  j : Int
  fill : UInt8
  size : Int
  picks : List Int

/-- The bytes of a write. -/
def text (o : DOp) : List UInt8 := List.replicate (max 0 (min o.size 100)).toNat o.fill
/-- What an operation answers and what it makes of the disk. -/
def doOp (D : Dsk) (o : DOp) : Int × Dsk :=
  if o.kind = 1 then write D o.i (text o) else if o.kind = 2 then (0, flush D) else if o.kind = 3 then (0, cut D o.picks)
  else if o.kind = 4 then rot D o.i o.j else if o.kind = 5 then lose D o.i else if o.kind = 6 then misdirect D o.i o.j else (0, D)
/-- A script on a disk. -/
def doAll (D : Dsk) (l : List DOp) : Dsk := l.foldl (fun D o => (doOp D o).2) D
end Go.Dsk0
namespace Go.Proofs.Ytmbkmfpnjpkakaa
open Go.RowKit Go.Im Go.Dsk0

/-- An operation's six cells. -/
def opV (o : DOp) (pv : Value) : Value := .agg #[.int .i64 o.kind, .int .i64 o.i, .int .i64 o.j, B o.fill, .int .i64 o.size, pv]

theorem few_yes (n : Int) (a : Option Addr) (len cap : Nat) (w : World) (h0 : 0 ≤ n) (h1 : n ≤ 40) (h2 : len ≤ 200) : Calls Try.prog 22 #[.int .i64 n, .slice a len cap] w fun e w' => e = .returned (.bool true) ∧ w = w' := by
  have h3 : (len : Int) ≤ 200 := by omega
  go_enter Try.func22, Try.ntmps22
  go_wp2
  go_ret
  exact ⟨rfl, rfl⟩
theorem few_no (n : Int) (a : Option Addr) (len cap : Nat) (w : World) (h : ¬ (0 ≤ n ∧ n ≤ 40 ∧ len ≤ 200)) : Calls Try.prog 22 #[.int .i64 n, .slice a len cap] w fun e w' => e = .returned (.bool false) ∧ w = w' := by
  have H := Lib.hid h; clear h
  by_cases h0 : 0 ≤ n
  · by_cases h1 : n ≤ 40
    · have h3 : ¬ (len : Int) ≤ 200 := fun h => H.out ⟨h0, h1, by omega⟩
      go_enter Try.func22, Try.ntmps22
      go_wp2
      go_ret
      exact ⟨rfl, rfl⟩
    · go_enter Try.func22, Try.ntmps22
      go_wp2
      go_ret
      exact ⟨rfl, rfl⟩
  · go_enter Try.func22, Try.ntmps22
    go_wp2
    go_ret
    exact ⟨rfl, rfl⟩

theorem info5 : (Try.prog.info? 5).map (fun i => (i.zero, i.size, i.bytes)) = some (some (.int .u8 0), 1, 1) := by kernel_rfl

/-- The first k of n bytes filled. -/
def filled (n k : Nat) (x : UInt8) : Array Value := ((List.replicate k (B x)) ++ List.replicate (n - k) (B 0)).toArray
theorem filled_size {n k : Nat} (x : UInt8) (h : k ≤ n) : (filled n k x).size = n := by simp [filled]; omega
theorem filled_zero (n : Nat) (x : UInt8) : madeCells (Value.int .u8 0).cells (n * 1) = filled n 0 x := by
  apply Array.ext_getElem?
  intro j
  simp [filled, madeCells, Value.cells, B]
  by_cases h : j < n
  · simp [h, Nat.mod_one]
  · simp [h]
theorem filled_step {n k : Nat} (x : UInt8) (h : k < n) : (filled n k x).setIfInBounds k (B x) = filled n (k + 1) x := by
  apply Array.ext_getElem?
  intro j
  simp only [filled, List.setIfInBounds_toArray, List.getElem?_toArray]
  rw [List.getElem?_set]
  by_cases hj : k = j
  · subst hj
    rw [if_pos rfl, if_pos (by simp; omega)]
    rw [List.getElem?_append_left (by simp), List.getElem?_replicate, if_pos (by omega)]
  · rw [if_neg hj]
    by_cases hjk : j < k
    · rw [List.getElem?_append_left (by simp; omega), List.getElem?_append_left (by simp; omega), List.getElem?_replicate, List.getElem?_replicate, if_pos hjk, if_pos (by omega)]
    · rw [List.getElem?_append_right (by simp; omega), List.getElem?_append_right (by simp; omega)]
      simp only [List.length_replicate, List.getElem?_replicate]
      by_cases hjn : j < n
      · rw [if_pos (by omega), if_pos (by omega)]
      · rw [if_neg (by omega), if_neg (by omega)]
theorem filled_all (n : Nat) (x : UInt8) (j : Nat) (y : UInt8) (h : (List.replicate n x)[j]? = some y) : (filled n n x)[j]? = some (B y) := by
  rw [List.getElem?_replicate] at h
  split at h
  · injection h with h; subst h
    simp only [filled, List.getElem?_toArray]
    rw [List.getElem?_append_left (by simp; omega), List.getElem?_replicate, if_pos (by omega)]
  · cases h

set_option maxRecDepth 100000 in
theorem text_calls (o : DOp) (pv : Value) (w : World) : Calls Try.prog 37 #[opV o pv] w fun e w' => e = .returned (.string ⟨(text o).toArray⟩) ∧ Fr (fun _ => False) w w' := by
  obtain ⟨kind, i, j, fill, size, picks⟩ := o
  obtain ⟨n, hn⟩ : ∃ n : Nat, max 0 (min size 100) = (n : Int) := ⟨(max 0 (min size 100)).toNat, by omega⟩
  have hn1 : n ≤ 100 := by omega
  have htx : text ⟨kind, i, j, fill, size, picks⟩ = List.replicate n fill := by unfold text; rw [hn]; rfl
  rw [htx]
  clear htx
  obtain ⟨fz, hfz⟩ : ∃ fz : Value, fz = B fill := ⟨_, rfl⟩
  unfold opV
  rw [← hfz]
  have HFZ := Lib.hid hfz; clear hfz
  obtain ⟨i0, hi, hz0, hz1, hz2⟩ := info_parts info5
  have HZ := Lib.hid hz1; clear hz1
  have HZ2 := Lib.hid hz2; clear hz2
  go_enter Try.func37, Try.ntmps37
  go_wp2_with (first
    | (refine im_make rfl 70 _ _ rfl u70 hi hz0 n rfl rfl rfl rfl (by rw [HZ2.out]; omega) (by omega) ?_; intro w1 b1 f1 z1; have B1 := Lib.hid b1; clear b1; have Z1 := Lib.hid z1; clear z1))
  have hz1 := Z1.out
  have hb1 := B1.out
  rw [HZ.out, filled_zero n fill] at hb1
  have HB := Lib.hid hb1; clear hb1
  have cf : w1.cell? ⟨w.heap.size, 3, none⟩ = some fz := (f1.cb (by simp) (fun h => h)).trans (by rw [cell_of_blk (heap_alloc_new w _)]; rfl)
  simp at hz1
  go_loopg [4] n (fun m t wr => ∃ k : Nat, m + k = n ∧ t = .int .i64 k ∧ wr.heap[w.heap.size + 1]? = some (.cells (filled n k fill) 5 (0, 0)) ∧ Fr (fun i => i = w.heap.size + 1) w1 wr)
  case atStart => exact ⟨0, rfl, rfl, by simpa using HB.out, Fr.refl _ _⟩
  case round =>
    obtain ⟨k, hm, rfl, hb, hfr⟩ := hrel
    have HM := Lib.hid hm; clear hm
    have HBK := Lib.hid hb; clear hb
    have cfr : wr.cell? ⟨w.heap.size, 3, none⟩ = some fz := (hfr.cb (by omega) (by simp)).trans cf
    by_cases hk : k < n
    · have hks : k < (filled n k fill).size := by rw [filled_size _ (by omega)]; exact hk
      go_wp2_with (first
        | (refine im_store1 rfl 5 _ _ rfl (v := fz) rfl rfl (by rw [HFZ.out]; exact B_one _) (by kernel_rfl) HBK.out hks ?_; intro w2 b2 f2 z2; have B2 := Lib.hid b2; clear b2; clear z2))
      have hn : gk + k = n := HM.out
      go_roundg (gk - 1)
      case measure => omega
      case rel =>
        refine ⟨k + 1, by omega, by go_num, ?_, hfr.trans f2⟩
        have := B2.out
        rw [HFZ.out, filled_step _ hk] at this
        exact this
    · have hkn : k = n := by have := HM.out; omega
      subst hkn
      go_wp2_with (first
        | (refine im_back rfl 70 9 _ rfl rfl u70 u5 u9 HBK.out (l := List.replicate k fill) (by simp) (fun j x hx => filled_all _ _ _ _ hx) ?_))
      go_ret
      refine ⟨rfl, ?_⟩
      exact ((((Fr.refl (fun i => i = w.heap.size + 1) w).alloc _).trans (f1.mono (fun _ _ h => h.elim))).trans hfr).mono (fun i hi h => by omega)

end Go.Proofs.Ytmbkmfpnjpkakaa
