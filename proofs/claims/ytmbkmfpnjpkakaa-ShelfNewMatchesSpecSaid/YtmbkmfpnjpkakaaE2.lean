/- The reference disk: Write. -/
import Derived.Test.YtmbkmfpnjpkakaaE1
namespace Go.Proofs.Ytmbkmfpnjpkakaa
open Go.RowKit Go.Im Go.Dsk0

/-- One sector turned; the others are what they were. -/
theorem RefAt.sec {w w' : World} {g bl : Nat} {D D' : Dsk} {cap : Nat} {cs cs' : Array Value} {i : Nat} (hk : Ok D') (hl : D'.length = D.length) (hgl : g ≠ bl) (hg : w.heap[g]? = some (.cells #[.slice (some ⟨bl, 0, none⟩) D.length cap] 122 (0, 0))) (hc : D.length ≤ cap)
    (hb : w.heap[bl]? = some (.cells cs 124 (0, 0))) (hz : D.length * 4 ≤ cs.size) (hs : ∀ i s, D[i]? = some s → SecAt w cs i s)
    (f : Fr (fun k => k = bl) w w') (hb' : w'.heap[bl]? = some (.cells cs' 124 (0, 0))) (hz' : cs'.size = cs.size) (ho : ∀ k u, k ≠ i → u < 4 → cs'[k * 4 + u]? = cs[k * 4 + u]?)
    (hD : ∀ k s, D'[k]? = some s → (k = i ∧ SecAt w' cs' i s) ∨ (k ≠ i ∧ D[k]? = some s)) : RefAt w' g bl D' := by
  refine RefAt.turn hk hl ((f.block g (lt_of_blk hg) hgl).trans hg) hc hb' (by omega) fun k s hs' => ?_
  rcases hD k s hs' with ⟨rfl, h⟩ | ⟨hne, hq⟩
  · exact h
  · obtain ⟨⟨dv, h1, h2⟩, ⟨cv, h3, h4⟩, h5, h6⟩ := (hs k s hq).fr f (noBytes_row hb (by decide))
    have e0 := ho k 0 hne (by omega)
    have e1 := ho k 1 hne (by omega)
    have e2 := ho k 2 hne (by omega)
    have e3 := ho k 3 hne (by omega)
    exact ⟨⟨dv, e0.trans h1, h2⟩, ⟨cv, e1.trans h3, h4⟩, e2.trans h5, e3.trans h6⟩

theorem modify_get {D : Dsk} {i : Nat} {F : Sec → Sec} {k : Nat} {s : Sec} (h : (D.modify i F)[k]? = some s) : (k = i ∧ ∃ t, D[i]? = some t ∧ s = F t) ∨ (k ≠ i ∧ D[k]? = some s) := by
  rw [List.getElem?_modify] at h
  by_cases hik : i = k
  · subst hik
    left
    cases hq : D[i]? with
    | none => simp [hq] at h
    | some t => simp [hq] at h; exact ⟨rfl, t, rfl, h.symm⟩
  · right
    cases hq : D[k]? with
    | none => simp [hq] at h
    | some t => simp [hq, hik] at h; subst h; exact ⟨fun e => hik e.symm, rfl⟩

/-- A fault taken away. -/
theorem RefAt.cleared {w w' : World} {g bl : Nat} {D : Dsk} {cap : Nat} {cs : Array Value} {i : Nat} (hk : Ok D) (hgl : g ≠ bl) (hg : w.heap[g]? = some (.cells #[.slice (some ⟨bl, 0, none⟩) D.length cap] 122 (0, 0))) (hc : D.length ≤ cap)
    (hb : w.heap[bl]? = some (.cells cs 124 (0, 0))) (hz : D.length * 4 ≤ cs.size) (hs : ∀ i s, D[i]? = some s → SecAt w cs i s) (hi : i < D.length)
    (f : Fr (fun k => k = bl) w w') (hb' : w'.heap[bl]? = some (.cells (cs.setIfInBounds (i * 4 + 3) (.int .i64 (-2))) 124 (0, 0))) : RefAt w' g bl (clr D i) := by
  refine RefAt.sec (i := i) (hk.clr i) (clr_length D i) hgl hg hc hb hz hs f hb' (by simp) (fun k u hne hu => cells_other (by omega) hu (.inl (fun e => hne e.symm))) fun k s hk' => ?_
  rcases modify_get hk' with ⟨rfl, t, ht, rfl⟩ | h
  · left
    obtain ⟨⟨dv, h1, h2⟩, ⟨cv, h3, h4⟩, h5, h6⟩ := (hs _ t ht).fr f (noBytes_row hb (by decide))
    exact ⟨rfl, ⟨dv, (cells_other (t := 3) (u := 0) (by omega) (by omega) (.inr (by omega))).trans h1, h2⟩, ⟨cv, (cells_other (by omega) (by omega) (.inr (by omega))).trans h3, h4⟩, (cells_other (by omega) (by omega) (.inr (by omega))).trans h5, cells_this (by omega) hi hz⟩
  · exact .inr h

/-- A sector's cached bytes laid, the sector pending. -/
theorem RefAt.cached {w w' : World} {g bl : Nat} {D : Dsk} {cap : Nat} {cs : Array Value} {i : Nat} {cv : Value} {l : List UInt8} (hk : Ok D) (hl : l.length = 64) (hgl : g ≠ bl) (hg : w.heap[g]? = some (.cells #[.slice (some ⟨bl, 0, none⟩) D.length cap] 122 (0, 0))) (hc : D.length ≤ cap)
    (hb : w.heap[bl]? = some (.cells cs 124 (0, 0))) (hz : D.length * 4 ≤ cs.size) (hs : ∀ i s, D[i]? = some s → SecAt w cs i s) (hi : i < D.length)
    (f : Fr (fun k => k = bl) w w') (hb' : w'.heap[bl]? = some (.cells ((cs.setIfInBounds (i * 4 + 1) cv).setIfInBounds (i * 4 + 2) (.bool true)) 124 (0, 0))) (hv : BytesAt w' cv l) : RefAt w' g bl (setc D i l) := by
  refine RefAt.sec (i := i) (hk.setc i l hl) (setc_length D i l) hgl hg hc hb hz hs f hb' (by simp) (fun k u hne hu => (cells_other (by omega) hu (.inl (fun e => hne e.symm))).trans (cells_other (by omega) hu (.inl (fun e => hne e.symm)))) fun k s hk' => ?_
  rcases modify_get hk' with ⟨rfl, t, ht, rfl⟩ | h
  · left
    obtain ⟨⟨dv, h1, h2⟩, ⟨cv0, h3, h4⟩, h5, h6⟩ := (hs _ t ht).fr f (noBytes_row hb (by decide))
    refine ⟨rfl, ⟨dv, (cells_other (t := 2) (u := 0) (by omega) (by omega) (.inr (by omega))).trans ((cells_other (t := 1) (u := 0) (by omega) (by omega) (.inr (by omega))).trans h1), h2⟩, ⟨cv, (cells_other (by omega) (by omega) (.inr (by omega))).trans (cells_this (by omega) hi hz), fun c hc' => ?_⟩, cells_this (by omega) hi (by simpa using hz), (cells_other (by omega) (by omega) (.inr (by omega))).trans ((cells_other (by omega) (by omega) (.inr (by omega))).trans h6)⟩
    injection hc' with hc'
    subst hc'; exact hv
  · exact .inr h

theorem clr_none {D : Dsk} {i : Nat} {s : Sec} (hs : D[i]? = some s) (hf : s.flt = none) : clr D i = D := by
  apply List.ext_getElem?
  intro k
  unfold clr
  rw [List.getElem?_modify]
  by_cases hik : i = k
  · subst hik
    rw [hs]
    obtain ⟨a, b, c⟩ := s
    simp only at hf
    subst hf
    simp
  · cases D[k]? <;> simp [hik]

/-- The bytes of a text that were just laid, and a row's two cells. -/
theorem BytesAt.laid {w : World} {b cap : Nat} {cs : Array Value} {fr : Nat × Nat} {s : ByteArray} (hb : w.heap[b]? = some (.cells cs 5 fr)) (hc : s.size ≤ cap) (h : ∀ j, j < s.size → cs[j]? = (s.data.toList[j]?).map B) : BytesAt w (.slice (some ⟨b, 0, none⟩) s.size cap) s.data.toList :=
  ⟨b, cap, cs, fr, rfl, hc, hb, fun j x hx => by
    have hj : j < s.size := (List.getElem?_eq_some_iff.1 hx).1
    rw [h j hj, hx]; rfl⟩

set_option maxRecDepth 100000 in
set_option maxHeartbeats 1000000 in
theorem rwrite_no (g bl : Nat) (D : Dsk) (i : Int) (s : ByteArray) (w : World) (h : RefAt w g bl D) (hb : ¬ (has D i = true ∧ s.size = 64)) :
    Calls Try.prog 72 #[.pointer (some ⟨g, 0, none⟩), .int .i64 i, .string s] w fun e w' => e = .returned (.int .i64 1) ∧ w = w' := by
  obtain ⟨av, cap, c0, hg, hcap, hd⟩ := h.open_
  clear hd hg hcap h
  cases hi : has D i with
  | false =>
    have Hi := Lib.hid hi; clear hi hb
    go_enter Try.func72, Try.ntmps72
    go_wp2_with fail
    refine (ris_any g _ _ _ i w c0 false Hi.out).mono ?_; rintro e w' ⟨rfl, rfl⟩
    go_wp2_with fail
    go_ret
    exact ⟨rfl, rfl⟩
  | true =>
    have hz : ((s.size : Int) != 64) = true := by
      have : ¬ s.size = 64 := fun h => hb ⟨hi, h⟩
      simp; omega
    have Hi := Lib.hid hi; clear hi hb
    go_enter Try.func72, Try.ntmps72
    go_wp2_with fail
    refine (ris_any g _ _ _ i w c0 true Hi.out).mono ?_; rintro e w' ⟨rfl, rfl⟩
    go_wp2_with fail
    go_ret
    exact ⟨rfl, rfl⟩

set_option maxRecDepth 100000 in
set_option maxHeartbeats 1000000 in
theorem rwrite_own (g bl : Nat) (D : Dsk) (k : Nat) (s : ByteArray) (w : World) (h : RefAt w g bl D) (hk : k < D.length) (hz : s.size = 64) (x : Sec) (hx : D[k]? = some x) (hf : x.flt = none) :
    Calls Try.prog 72 #[.pointer (some ⟨g, 0, none⟩), .int .i64 k, .string s] w fun e w' => e = .returned (.int .i64 0) ∧ RefAt w' g bl (setc D k s.data.toList) ∧ Fr (fun q => q = bl) w w' := by
  obtain ⟨av, cap, c0, hg, hcap, hd⟩ := h.open_
  rcases hd with hd | ⟨rfl, hgl, cs, hb, hsz, hs⟩
  · subst hd; simp at hk
  have hok := h.ok
  have c3 : w.cell? ⟨bl, k * 4 + 3, none⟩ = some (.int .i64 (-2)) := by
    have := (hs k x hx).flt
    rw [hf] at this
    exact (cell_of_blk hb).trans this
  have Hi := Lib.hid (show hasB D.length k = true from has_nat hk)
  have HB := Lib.hid hb; clear hb
  have HS := Lib.hid hs; clear hs
  have HG := Lib.hid hg; clear hg
  have HOK := Lib.hid hok; clear hok
  have k0 : (0 : Int) ≤ k := by omega
  have k1 : (k : Int) < D.length := by omega
  have hbz : ((s.size : Int) != 64) = false := by simp [hz]
  have hglt := lt_of_blk HG.out
  have hblt := lt_of_blk HB.out
  clear h hx hf
  go_enter Try.func72, Try.ntmps72
  go_wp2_with fail
  refine (ris_any g _ _ _ k w c0 true Hi.out).mono ?_; rintro e w' ⟨rfl, rfl⟩
  go_wp2_with (first
    | (refine im_bytes' rfl 9 70 _ rfl s rfl u9 u70 u5 ?_; intro w1 cp X fr b1 s1 x1 z1 cp1 f1 y1; have B1 := Lib.hid b1; clear b1; have X1 := Lib.hid x1; clear x1; have Y1 := Lib.hid y1; clear y1 z1; have HB1 := Lib.hid ((f1.block bl hblt (fun h => h)).trans HB.out); have c01 := (f1.cb hglt (fun h => h)).trans c0)
    | (refine im_store1 rfl 70 _ _ rfl (v := .slice (some ⟨w.heap.size, 0, none⟩) 64 cp) rfl rfl rfl (by kernel_rfl) HB1.out (by omega) ?_; intro w2 b2 f2 z2; have B2 := Lib.hid b2; clear b2; clear z2; have c02 := (f2.cb (Nat.lt_of_lt_of_le hglt f1.size) hgl).trans c01)
    | (refine im_store1 rfl 4 _ _ rfl (v := .bool true) rfl rfl rfl (by kernel_rfl) B2.out (by simp; omega) ?_; intro w3 b3 f3 z3; have B3 := Lib.hid b3; clear b3; clear z3))
  go_ret
  have ff := (f1.none (S := fun q => q = bl)).trans (f2.trans f3)
  have hy := Y1.out
  have hv : BytesAt w3 (.slice (some ⟨w.heap.size, 0, none⟩) 64 cp) s.data.toList := by
    have := BytesAt.laid B1.out cp1 X1.out
    rw [hz] at this
    exact (this.fr f2 (noBytes_row HB1.out (by decide))).fr f3 (noBytes_row B2.out (by decide))
  exact ⟨rfl, RefAt.cached HOK.out hz hgl HG.out hcap HB.out hsz HS.out hk ff B3.out hv, ff⟩

set_option maxRecDepth 100000 in
set_option maxHeartbeats 1000000 in
theorem rwrite_lost (g bl : Nat) (D : Dsk) (k : Nat) (s : ByteArray) (w : World) (h : RefAt w g bl D) (hk : k < D.length) (hz : s.size = 64) (x : Sec) (hx : D[k]? = some x) (hf : x.flt = some (-1)) :
    Calls Try.prog 72 #[.pointer (some ⟨g, 0, none⟩), .int .i64 k, .string s] w fun e w' => e = .returned (.int .i64 0) ∧ RefAt w' g bl (clr D k) ∧ Fr (fun q => q = bl) w w' := by
  obtain ⟨av, cap, c0, hg, hcap, hd⟩ := h.open_
  rcases hd with hd | ⟨rfl, hgl, cs, hb, hsz, hs⟩
  · subst hd; simp at hk
  have hok := h.ok
  have c3 : w.cell? ⟨bl, k * 4 + 3, none⟩ = some (.int .i64 (-1)) := by
    have := (hs k x hx).flt
    rw [hf] at this
    exact (cell_of_blk hb).trans this
  have Hi := Lib.hid (show hasB D.length k = true from has_nat hk)
  have HB := Lib.hid hb; clear hb
  have HS := Lib.hid hs; clear hs
  have HG := Lib.hid hg; clear hg
  have HOK := Lib.hid hok; clear hok
  have k0 : (0 : Int) ≤ k := by omega
  have k1 : (k : Int) < D.length := by omega
  have hbz : ((s.size : Int) != 64) = false := by simp [hz]
  clear h hx hf
  go_enter Try.func72, Try.ntmps72
  go_wp2_with fail
  refine (ris_any g _ _ _ k w c0 true Hi.out).mono ?_; rintro e w' ⟨rfl, rfl⟩
  go_wp2_with (first
    | (refine im_store1 rfl 3 _ _ rfl (v := .int .i64 (-2)) rfl rfl rfl (by kernel_rfl) HB.out (by omega) ?_; intro w1 b1 f1 z1; have B1 := Lib.hid b1; clear b1; clear z1))
  go_ret
  exact ⟨rfl, RefAt.cleared HOK.out hgl HG.out hcap HB.out hsz HS.out hk f1 B1.out, f1⟩

set_option maxRecDepth 100000 in
set_option maxHeartbeats 1000000 in
theorem rwrite_wrong (g bl : Nat) (D : Dsk) (k t : Nat) (s : ByteArray) (w : World) (h : RefAt w g bl D) (hk : k < D.length) (ht : t < D.length) (hz : s.size = 64) (x : Sec) (hx : D[k]? = some x) (hf : x.flt = some (t : Int)) :
    Calls Try.prog 72 #[.pointer (some ⟨g, 0, none⟩), .int .i64 k, .string s] w fun e w' => e = .returned (.int .i64 0) ∧ RefAt w' g bl (setc (clr D k) t s.data.toList) ∧ Fr (fun q => q = bl) w w' := by
  obtain ⟨av, cap, c0, hg, hcap, hd⟩ := h.open_
  rcases hd with hd | ⟨rfl, hgl, cs, hb, hsz, hs⟩
  · subst hd; simp at hk
  have hok := h.ok
  have c3 : w.cell? ⟨bl, k * 4 + 3, none⟩ = some (.int .i64 t) := by
    have := (hs k x hx).flt
    rw [hf] at this
    exact (cell_of_blk hb).trans this
  have Hi := Lib.hid (show hasB D.length k = true from has_nat hk)
  have HB := Lib.hid hb; clear hb
  have HS := Lib.hid hs; clear hs
  have HG := Lib.hid hg; clear hg
  have HOK := Lib.hid hok; clear hok
  have k0 : (0 : Int) ≤ k := by omega
  have k1 : (k : Int) < D.length := by omega
  have t0 : (0 : Int) ≤ t := by omega
  have t1 : (t : Int) < D.length := by omega
  have t2 : (-1 : Int) ≤ t := by omega
  have hbz : ((s.size : Int) != 64) = false := by simp [hz]
  have hglt := lt_of_blk HG.out
  have hblt := lt_of_blk HB.out
  clear h hx hf
  go_enter Try.func72, Try.ntmps72
  go_wp2_with fail
  refine (ris_any g _ _ _ k w c0 true Hi.out).mono ?_; rintro e w' ⟨rfl, rfl⟩
  go_wp2_with (first
    | (refine im_store1 rfl 3 _ _ rfl (v := .int .i64 (-2)) rfl rfl rfl (by kernel_rfl) HB.out (by omega) ?_; intro w4 b4 f4 z4; have B4 := Lib.hid b4; clear b4; clear z4; have c04 := (f4.cb hglt hgl).trans c0)
    | (refine im_bytes' rfl 9 70 _ rfl s rfl u9 u70 u5 ?_; intro w1 cp X fr b1 s1 x1 z1 cp1 f1 y1; have B1 := Lib.hid b1; clear b1; have X1 := Lib.hid x1; clear x1; have Y1 := Lib.hid y1; clear y1 z1; have HB1 := Lib.hid ((f1.block bl (lt_of_blk B4.out) (fun h => h)).trans B4.out); have c01 := (f1.cb (Nat.lt_of_lt_of_le hglt f4.size) (fun h => h)).trans c04)
    | (refine im_store1 rfl 70 _ _ rfl (v := .slice (some ⟨w4.heap.size, 0, none⟩) 64 cp) rfl rfl rfl (by kernel_rfl) HB1.out (by simp; omega) ?_; intro w2 b2 f2 z2; have B2 := Lib.hid b2; clear b2; clear z2; have c02 := (f2.cb (Nat.lt_of_lt_of_le (Nat.lt_of_lt_of_le hglt f4.size) f1.size) hgl).trans c01)
    | (refine im_store1 rfl 4 _ _ rfl (v := .bool true) rfl rfl rfl (by kernel_rfl) B2.out (by simp; omega) ?_; intro w3 b3 f3 z3; have B3 := Lib.hid b3; clear b3; clear z3))
  go_ret
  have R4 := RefAt.cleared HOK.out hgl HG.out hcap HB.out hsz HS.out hk f4 B4.out
  obtain ⟨av4, cap4, -, hg4, hc4, hd4⟩ := R4.open_
  rcases hd4 with hd4 | ⟨rfl, -, cs4, hb4, hz4, hs4⟩
  · have := clr_length D k
    rw [hd4] at this
    simp at this; omega
  have e4 : cs4 = cs.setIfInBounds (k * 4 + 3) (.int .i64 (-2)) := by
    have := hb4.symm.trans B4.out
    injection this with this
    injection this
  have ff := (f1.none (S := fun q => q = bl)).trans (f2.trans f3)
  have hv : BytesAt w3 (.slice (some ⟨w4.heap.size, 0, none⟩) 64 cp) s.data.toList := by
    have := BytesAt.laid B1.out cp1 X1.out
    rw [hz] at this
    exact (this.fr f2 (noBytes_row HB1.out (by decide))).fr f3 (noBytes_row B2.out (by decide))
  have b3 := B3.out
  rw [← e4] at b3
  exact ⟨rfl, RefAt.cached R4.ok hz hgl hg4 hc4 hb4 hz4 hs4 (by rw [clr_length]; exact ht) ff b3 hv, f4.trans ff⟩

/-- Write. -/
theorem rwrite_calls (g bl : Nat) (D : Dsk) (i : Int) (s : ByteArray) (w : World) (h : RefAt w g bl D) :
    Calls Try.prog 72 #[.pointer (some ⟨g, 0, none⟩), .int .i64 i, .string s] w fun e w' => e = .returned (.int .i64 (write D i s.data.toList).1) ∧ RefAt w' g bl (write D i s.data.toList).2 ∧ Fr (fun q => q = bl) w w' := by
  by_cases hb : has D i = true ∧ s.size = 64
  · obtain ⟨hi, hz⟩ := hb
    have hi' := has_iff.1 hi
    obtain ⟨k, rfl⟩ : ∃ k : Nat, i = k := ⟨i.toNat, by omega⟩
    have hk : k < D.length := by omega
    have hx : D[k]? = some D[k] := List.getElem?_eq_getElem hk
    have hl : s.data.toList.length = 64 := hz
    rw [write_nat hk hl]
    have hgo : goal D k = (D[k].flt).getD k := by unfold goal; rw [Int.toNat_natCast, hx]; rfl
    cases hf : D[k].flt with
    | none =>
      rw [hgo, hf]
      simp only [Option.getD_none]
      rw [if_neg (by omega), clr_none hx hf, Int.toNat_natCast]
      exact rwrite_own g bl D k s w h hk hz _ hx hf
    | some t =>
      rw [hgo, hf]
      simp only [Option.getD_some]
      rcases h.ok.flt _ (List.getElem_mem hk) t hf with rfl | ⟨h0, h1⟩
      · rw [if_pos rfl]
        exact rwrite_lost g bl D k s w h hk hz _ hx hf
      · obtain ⟨t, rfl⟩ : ∃ q : Nat, t = q := ⟨t.toNat, by omega⟩
        rw [if_neg (by omega), Int.toNat_natCast]
        exact rwrite_wrong g bl D k t s w h hk (by omega) hz _ hx hf
  · have hw : write D i s.data.toList = (1, D) := by
      unfold write
      rw [if_neg (fun h => hb ⟨h.1, h.2⟩)]
    rw [hw]
    refine (rwrite_no g bl D i s w h hb).mono ?_
    rintro e w' ⟨rfl, rfl⟩
    exact ⟨rfl, h, Fr.refl _ _⟩

end Go.Proofs.Ytmbkmfpnjpkakaa
