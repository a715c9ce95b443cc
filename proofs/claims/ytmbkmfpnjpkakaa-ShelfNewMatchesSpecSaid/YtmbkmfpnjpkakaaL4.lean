/- The law helper contents: the contents of all sectors, as a new slice of texts. -/
import Derived.Test.YtmbkmfpnjpkakaaL3
import Derived.Lib.SlicesS
namespace Go.Proofs.Ytmbkmfpnjpkakaa
open Go.RowKit Go.Im Go.Dsk0

/-- A text; a sector's content as a text; the contents of all sectors. -/
def strOf (l : List UInt8) : Value := .string ⟨l.toArray⟩
def conts (D : Dsk) : List (List UInt8) := D.map cont
def strV (s : Sec) : Value := strOf (cont s)
theorem strV_map (D : Dsk) : D.map strV = (conts D).map strOf := by simp [conts, strV, Function.comp_def]
theorem info9 : (Try.prog.info? 9).map (fun i => (i.zero, i.size, i.bytes)) = some (some (.string ⟨#[]⟩), 1, 16) := by kernel_rfl
theorem u57 : Try.prog.underlying 57 = some (.slice 9) := by kernel_rfl
theorem read_at {D : Dsk} {k : Nat} {s : Sec} (h : D[k]? = some s) : Dsk0.read D k = (cont s, 0) := by
  have hk : k < D.length := (List.getElem?_eq_some_iff.1 h).1
  unfold Dsk0.read
  rw [if_pos (has_iff.2 ⟨by omega, by omega⟩), Int.toNat_natCast, h]; rfl

set_option maxRecDepth 100000 in
set_option maxHeartbeats 1000000 in
theorem contents_calls (g bd bc ba : Nat) (D : Dsk) (w : World) (h : DiskAt w g bd bc ba D) :
    Calls Try.prog 34 #[.pointer (some ⟨g, 0, none⟩), .int .i64 D.length] w fun e w' => ∃ v, e = .returned v ∧ w'.ownsRow w.heap.size 9 1 v D.length ((conts D).map strOf) ∧ Fr (fun _ => False) w w' := by
  have hlen := h.ok.len
  have H := Lib.hid h; clear h
  obtain ⟨i0, hi, hz0, hz1, hz2⟩ := info_parts info9
  go_enter Try.func34, Try.ntmps34
  go_wp2_with fail
  go_loopg [5, 10] D.length (fun m v t wr => ∃ k : Nat, m + k = D.length ∧ t = .int .i64 k ∧ wr.ownsRow w.heap.size 9 1 v k ((D.take k).map strV) ∧ Fr (fun _ => False) w wr)
  case atStart => exact ⟨0, rfl, rfl, World.ownsRow_nil _ _ _ _, Fr.refl _ _⟩
  case round =>
    obtain ⟨k, hm, rfl, hown, hfr⟩ := hrel
    have HM := Lib.hid hm; clear hm
    have HO := Lib.hid hown; clear hown
    have hw := hfr.size
    by_cases hk : k < D.length
    · obtain ⟨s, hs⟩ : ∃ s, D[k]? = some s := ⟨_, List.getElem?_eq_getElem hk⟩
      have hrd := read_at hs
      have htk : D.take (k + 1) = D.take k ++ [s] := by rw [List.take_add_one, hs]; rfl
      have HT := Lib.hid htk; clear htk
      clear hs
      go_wp2_with fail
      refine (read_calls g bd bc ba D k wr (H.out.fr hfr (fun h => h) (fun _ h => h) (fun h => h) (fun h => h))).mono ?_
      rintro e w1 ⟨rfl, f1⟩
      rw [hrd]
      clear hrd
      have hw1 := f1.size
      have hown1 := row_fr HO.out f1 (fun _ _ _ h => h)
      have HO1 := Lib.hid hown1; clear hown1
      go_wp2_with (first
        | (at_builtin; refine im_append1 rfl _ _ 57 rfl w.heap.size u57 hi hz0 hz1 hz2 rfl (by decide) rfl (row_fr HO1.out ((Fr.refl (fun _ => False) _).alloc _) (fun _ _ _ h => h)) rfl (heap_alloc_new w1 _) rfl (by simp [Value.oneCell']) (by unfold maxLen; omega) (by omega) (by simp; omega) ?_; intro v2 w2 o2 f2; have O2 := Lib.hid o2; clear o2))
      have hn : gk + k = D.length := HM.out
      go_roundg (gk - 1)
      case measure => omega
      case rel =>
        refine ⟨k + 1, by omega, by go_num, ?_, ?_⟩
        · have := O2.out
          rw [HT.out, List.map_append]
          exact this
        · exact (hfr.trans (f1.alloc _)).trans' f2 (fun _ _ h => h) (fun i hi h => by omega)
    · have hkn : k = D.length := by have := HM.out; omega
      go_wp2_with fail
      go_ret
      have := HO.out
      rw [hkn, List.take_length, strV_map] at this
      exact ⟨_, rfl, this, hfr⟩

theorem strOf_inj {l m : List UInt8} (h : strOf l = strOf m) : l = m := by
  unfold strOf at h
  injection h with h
  injection h with h
  simpa using congrArg Array.toList h

theorem take_eq_snocS {l m : List (List UInt8)} {k : Nat} {x y : List UInt8} (h : l.take k = m.take k) (hx : l[k]? = some x) (hy : m[k]? = some y) (e : x = y) : l.take (k + 1) = m.take (k + 1) := by
  rw [List.take_add_one, List.take_add_one, h, hx, hy, e]

/-- A row of texts: its slice and its cells. -/
theorem row_strs {w : World} {base : Nat} {v : Value} {n : Nat} {l : List (List UInt8)} (h : w.ownsRow base 9 1 v n (l.map strOf)) : n = l.length ∧ ∃ a c, v = .slice a l.length c ∧ (l = [] ∨ ∃ b, a = some ⟨b, 0, none⟩ ∧ b < w.heap.size ∧ ∀ (j : Nat) (x : List UInt8), l[j]? = some x → w.cell? ⟨b, j, none⟩ = some (.string ⟨x.toArray⟩)) := by
  obtain ⟨h1, h2⟩ := h
  have hn : n = l.length := by simpa using h1.symm
  subst hn
  refine ⟨rfl, ?_⟩
  rcases h2 with h2 | ⟨gb, vc, cur, h2, h3, h4, h5, h6, h7, h8⟩
  · exact ⟨none, 0, by rw [h2.1, h2.2], .inl (List.eq_nil_of_length_eq_zero h2.2)⟩
  · refine ⟨_, vc, h2, .inr ⟨gb, rfl, lt_of_blk h4, fun j x hx => ?_⟩⟩
    have hj : j < l.length := (List.getElem?_eq_some_iff.1 hx).1
    rw [cell_of_blk h4]
    have : (cur.toList.take (l.length * 1))[j]? = some (strOf x) := by
      rw [h8, List.getElem?_map, hx]; rfl
    rw [List.getElem?_take_of_lt (by omega)] at this
    simpa [strOf] using this

set_option maxRecDepth 100000 in
theorem equal_calls (va vb : Value) (xs ys : List (List UInt8)) (w : World) {ba bb na nb : Nat} (ha : w.ownsRow ba 9 1 va na (xs.map strOf)) (hb : w.ownsRow bb 9 1 vb nb (ys.map strOf)) (hlx : xs.length ≤ 65536) :
    Calls Try.prog 40 #[va, vb] w fun e w' => e = .returned (.bool (decide (xs = ys))) ∧ Fr (fun _ => False) w w' := by
  obtain ⟨-, aa, ca, rfl, hca⟩ := row_strs ha
  obtain ⟨-, ab, cb, rfl, hcb⟩ := row_strs hb
  clear ha hb
  have HA := Lib.hid hca; clear hca
  have HB := Lib.hid hcb; clear hcb
  by_cases hlen : xs.length = ys.length
  · have HL := Lib.hid hlen; clear hlen
    have hbt : (((xs.length : Nat) : Int) != ((ys.length : Nat) : Int)) = false := by rw [HL.out]; simp
    have HBT := Lib.hid hbt; clear hbt
    have hle : ys.length = xs.length := HL.out.symm
    go_enter Try.func40, Try.ntmps40
    go_wp2_with fail
    go_loopg [13] xs.length (fun n t wr => ∃ k : Nat, n + k = xs.length ∧ t = .int .i64 k ∧ xs.take k = ys.take k ∧ Fr (fun _ => False) w wr)
    case atStart => exact ⟨0, rfl, rfl, rfl, Fr.refl _ _⟩
    case round =>
      obtain ⟨k, hn, rfl, heq, hfr⟩ := hrel
      have HN := Lib.hid hn; clear hn
      have HE := Lib.hid heq; clear heq
      by_cases hk : k < xs.length
      · have hkb : k < ys.length := by have := HL.out; omega
        obtain ⟨x, hx⟩ : ∃ x, xs[k]? = some x := ⟨_, List.getElem?_eq_getElem hk⟩
        obtain ⟨y, hy⟩ : ∃ y, ys[k]? = some y := ⟨_, List.getElem?_eq_getElem hkb⟩
        obtain ⟨b1, rfl, hb1, hc1⟩ := (HA.out.resolve_left (fun e => by rw [e] at hk; simp at hk))
        obtain ⟨b2, rfl, hb2, hc2⟩ := (HB.out.resolve_left (fun e => by rw [e] at hkb; simp at hkb))
        have c1 : wr.cell? ⟨b1, k, none⟩ = some (.string ⟨x.toArray⟩) := (hfr.cb hb1 (fun h => h)).trans (hc1 k x hx)
        have c2 : wr.cell? ⟨b2, k, none⟩ = some (.string ⟨y.toArray⟩) := (hfr.cb hb2 (fun h => h)).trans (hc2 k y hy)
        obtain ⟨X, hX⟩ : ∃ X : ByteArray, X = ⟨x.toArray⟩ := ⟨_, rfl⟩
        obtain ⟨Y, hY⟩ : ∃ Y : ByteArray, Y = ⟨y.toArray⟩ := ⟨_, rfl⟩
        rw [← hX] at c1
        rw [← hY] at c2
        have hXY : X = Y ↔ x = y := by
          rw [hX, hY]
          constructor
          · intro e; exact strOf_inj (congrArg Value.string e)
          · intro e; rw [e]
        have HXX := Lib.hid hXY; clear hXY
        have HX := Lib.hid hx; clear hx
        have HY := Lib.hid hy; clear hy
        clear hc1 hc2 hX hY
        by_cases hxy : X = Y
        · have hne : (X.toList == Y.toList) = true := (Lib.bytes_beq_iff X Y).2 hxy
          have HXY := Lib.hid hxy; clear hxy
          go_wp2_with fail
          go_quiet (fail)
          go_wp2_with fail
          have hn : gk + k = xs.length := HN.out
          go_roundg (gk - 1)
          case measure => omega
          case rel => exact ⟨k + 1, by omega, by go_num, take_eq_snocS HE.out HX.out HY.out (HXX.out.1 HXY.out), hfr.drewN _⟩
        · have hne : (X.toList == Y.toList) = false := (Lib.bytes_beq_false_iff X Y).2 hxy
          have HXY := Lib.hid hxy; clear hxy
          go_wp2_with fail
          go_quiet (fail)
          go_wp2_with fail
          go_ret
          have : xs ≠ ys := fun e => HXY.out (HXX.out.2 (by have := HX.out; rw [e, HY.out] at this; exact (Option.some.inj this).symm))
          exact ⟨by simp [this], hfr.drewN _⟩
      · go_wp2_with fail
        go_ret
        have he := HE.out
        have hll := HL.out
        rw [List.take_of_length_le (by omega), List.take_of_length_le (by omega)] at he
        exact ⟨by simp [he], hfr⟩
  · have hbt : (((xs.length : Nat) : Int) != ((ys.length : Nat) : Int)) = true := by simp; omega
    go_enter Try.func40, Try.ntmps40
    go_wp2_with fail
    go_ret
    have : xs ≠ ys := fun e => hlen (by rw [e])
    exact ⟨by simp [this], Fr.refl _ _⟩

end Go.Proofs.Ytmbkmfpnjpkakaa
