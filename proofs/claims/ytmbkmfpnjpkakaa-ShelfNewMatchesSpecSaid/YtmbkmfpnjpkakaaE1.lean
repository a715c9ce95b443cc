/- The reference disk: is, Lose, Misdirect. -/
import Derived.Test.YtmbkmfpnjpkakaaE0
namespace Go.Proofs.Ytmbkmfpnjpkakaa
open Go.RowKit Go.Im Go.Dsk0

theorem ris_any (g : Nat) (n c : Nat) (av : Option Addr) (i : Int) (w : World) (c0 : w.cell? ⟨g, 0, none⟩ = some (.slice av n c)) (b : Bool) (hb : hasB n i = b) :
    Calls Try.prog 100 #[.pointer (some ⟨g, 0, none⟩), .int .i64 i] w fun e w' => e = .returned (.bool b) ∧ w = w' := by
  by_cases h0 : 0 ≤ i
  · have e1 : b = decide (i < n) := by rw [← hb]; simp [hasB, h0]
    have E1 := Lib.hid e1; clear e1 hb
    go_enter Try.func100, Try.ntmps100
    go_wp2
    go_ret
    exact ⟨congrArg (fun b => Ending.returned (Value.bool b)) E1.out.symm, rfl⟩
  · have e1 : b = false := by rw [← hb]; simp [hasB, h0]
    have E1 := Lib.hid e1; clear e1 hb
    go_enter Try.func100, Try.ntmps100
    go_wp2
    go_ret
    exact ⟨congrArg (fun b => Ending.returned (Value.bool b)) E1.out.symm, rfl⟩

theorem RefAt.open_ {w : World} {g bl : Nat} {D : Dsk} (h : RefAt w g bl D) : ∃ av cap, w.cell? ⟨g, 0, none⟩ = some (.slice av D.length cap) ∧ w.heap[g]? = some (.cells #[.slice av D.length cap] 122 (0, 0)) ∧ D.length ≤ cap ∧
    (D = [] ∨ (av = some ⟨bl, 0, none⟩ ∧ g ≠ bl ∧ ∃ cs, w.heap[bl]? = some (.cells cs 124 (0, 0)) ∧ D.length * 4 ≤ cs.size ∧ ∀ i s, D[i]? = some s → SecAt w cs i s)) := by
  obtain ⟨_, av, cap, h1, h2, h3⟩ := h
  refine ⟨av, cap, cell_of_blk h1, h1, h2, h3.imp id ?_⟩
  rintro ⟨e, cs, h4, h5⟩
  refine ⟨e, fun h => ?_, cs, h4, h5⟩
  subst h; rw [h1] at h4; injection h4 with h4; injection h4 with _ h4 _; exact absurd h4 (by decide)

/-- One cell of one sector turned: the others are what they were. -/
theorem cells_other {cs : Array Value} {i k t u : Nat} {v : Value} (ht : t < 4) (hu : u < 4) (h : i ≠ k ∨ t ≠ u) : (cs.setIfInBounds (i * 4 + t) v)[k * 4 + u]? = cs[k * 4 + u]? := by
  rw [Array.getElem?_setIfInBounds_ne (by omega)]
theorem cells_this {cs : Array Value} {i t n : Nat} {v : Value} (ht : t < 4) (hi : i < n) (hz : n * 4 ≤ cs.size) : (cs.setIfInBounds (i * 4 + t) v)[i * 4 + t]? = some v := by
  rw [Array.getElem?_setIfInBounds_self_of_lt (by omega)]

/-- A fault armed. -/
theorem SecAt.arm {w w' : World} {cs : Array Value} {i k n : Nat} {s : Sec} (t : Int) (h : SecAt w cs k s) (hi : i < n) (hz : n * 4 ≤ cs.size) {S : Nat → Prop} (f : Fr S w w') (hS : noBytes w S) :
    SecAt w' (cs.setIfInBounds (i * 4 + 3) (.int .i64 t)) k (if i = k then { s with flt := some t } else s) := by
  obtain ⟨⟨dv, h1, h2⟩, ⟨cv, h3, h4⟩, h5, h6⟩ := h.fr f hS
  have e0 := cells_other (cs := cs) (i := i) (k := k) (t := 3) (u := 0) (v := .int .i64 t) (by omega) (by omega) (.inr (by omega))
  have e1 := cells_other (cs := cs) (i := i) (k := k) (t := 3) (u := 1) (v := .int .i64 t) (by omega) (by omega) (.inr (by omega))
  have e2 := cells_other (cs := cs) (i := i) (k := k) (t := 3) (u := 2) (v := .int .i64 t) (by omega) (by omega) (.inr (by omega))
  by_cases hik : i = k
  · subst hik
    rw [if_pos rfl]
    exact ⟨⟨dv, e0.trans h1, h2⟩, ⟨cv, e1.trans h3, h4⟩, e2.trans h5, cells_this (by omega) hi hz⟩
  · rw [if_neg hik]
    have e3 := cells_other (cs := cs) (i := i) (k := k) (t := 3) (u := 3) (v := .int .i64 t) (by omega) (by omega) (.inl hik)
    exact ⟨⟨dv, e0.trans h1, h2⟩, ⟨cv, e1.trans h3, h4⟩, e2.trans h5, e3.trans h6⟩

theorem noBytes_row {w : World} {bl : Nat} {cs : Array Value} {t : TypeId} {fr : Nat × Nat} (h : w.heap[bl]? = some (.cells cs t fr)) (ht : t ≠ 5) : noBytes w (fun k => k = bl) := fun b cs' fr' hb e => by
  subst e; rw [h] at hb; injection hb with hb; injection hb with _ hb _; exact ht hb

/-- The sectors' row with a fault armed. -/
theorem RefAt.armed {w w' : World} {g bl : Nat} {D : Dsk} {cap : Nat} {cs : Array Value} {i : Nat} (t : Int) (hk : Ok (arm D i t)) (hgl : g ≠ bl) (hg : w.heap[g]? = some (.cells #[.slice (some ⟨bl, 0, none⟩) D.length cap] 122 (0, 0))) (hc : D.length ≤ cap)
    (hb : w.heap[bl]? = some (.cells cs 124 (0, 0))) (hz : D.length * 4 ≤ cs.size) (hs : ∀ i s, D[i]? = some s → SecAt w cs i s) (hi : i < D.length)
    (f : Fr (fun k => k = bl) w w') (hb' : w'.heap[bl]? = some (.cells (cs.setIfInBounds (i * 4 + 3) (.int .i64 t)) 124 (0, 0))) : RefAt w' g bl (arm D i t) := by
  refine RefAt.turn hk (by simp [arm]) ((f.block g (lt_of_blk hg) hgl).trans hg) hc hb' (by simpa using hz) fun k s' hs' => ?_
  unfold arm at hs'
  rw [List.getElem?_modify] at hs'
  cases hq : D[k]? with
  | none => simp [hq] at hs'
  | some s =>
    rw [hq] at hs'
    have h := (hs k s hq).arm (i := i) t hi hz f (noBytes_row hb (by decide))
    by_cases hik : i = k
    · simp [hik] at hs'; subst hs'; simpa [hik] using h
    · simp [hik] at hs'; subst hs'; simpa [hik] using h

theorem rlose_calls (g bl : Nat) (D : Dsk) (i : Int) (w : World) (h : RefAt w g bl D) :
    Calls Try.prog 76 #[.pointer (some ⟨g, 0, none⟩), .int .i64 i] w fun e w' => e = .returned (.int .i64 (lose D i).1) ∧ RefAt w' g bl (lose D i).2 ∧ Fr (fun k => k = bl) w w' := by
  obtain ⟨av, cap, c0, hg, hcap, hd⟩ := h.open_
  cases hi : has D i with
  | false =>
    have Hi := Lib.hid hi; clear hi
    have H := Lib.hid h; clear h
    unfold lose
    rw [if_neg (by rw [Hi.out]; decide)]
    have c0' := c0
    clear hg hcap hd
    go_enter Try.func76, Try.ntmps76
    go_wp2_with fail
    refine (ris_any g _ _ _ i w c0 false Hi.out).mono ?_; rintro e w' ⟨rfl, rfl⟩
    go_wp2_with fail
    go_ret
    exact ⟨rfl, H.out, Fr.refl _ _⟩
  | true =>
    have hi' := has_iff.1 hi
    obtain ⟨k, rfl⟩ : ∃ k : Nat, i = k := ⟨i.toNat, by omega⟩
    have hk : k < D.length := by omega
    rw [lose_nat hk]
    rcases hd with hd | ⟨rfl, hgl, cs, hb, hz, hs⟩
    · subst hd; simp at hk
    have hok := Ok.arm h.ok k (-1) (.inl rfl)
    have Hi := Lib.hid hi; clear hi
    have HB := Lib.hid hb; clear hb
    have HS := Lib.hid hs; clear hs
    have HG := Lib.hid hg; clear hg
    have HOK := Lib.hid hok; clear hok
    have k0 : (0 : Int) ≤ k := by omega
    have k1 : (k : Int) < D.length := by omega
    clear hi' h
    go_enter Try.func76, Try.ntmps76
    go_wp2_with fail
    refine (ris_any g _ _ _ k w c0 true Hi.out).mono ?_; rintro e w' ⟨rfl, rfl⟩
    go_wp2_with (first
      | (refine im_store1 rfl 3 _ _ rfl (v := .int .i64 (-1)) rfl rfl rfl (by kernel_rfl) HB.out (by omega) ?_; intro w1 b1 f1 z1; have B1 := Lib.hid b1; clear b1; clear z1))
    go_ret
    exact ⟨rfl, RefAt.armed (-1) HOK.out hgl HG.out hcap HB.out hz HS.out hk f1 B1.out, f1⟩

theorem rmisdirect_calls (g bl : Nat) (D : Dsk) (i t : Int) (w : World) (h : RefAt w g bl D) :
    Calls Try.prog 77 #[.pointer (some ⟨g, 0, none⟩), .int .i64 i, .int .i64 t] w fun e w' => e = .returned (.int .i64 (misdirect D i t).1) ∧ RefAt w' g bl (misdirect D i t).2 ∧ Fr (fun k => k = bl) w w' := by
  obtain ⟨av, cap, c0, hg, hcap, hd⟩ := h.open_
  cases hi : has D i with
  | false =>
    have hm : misdirect D i t = (1, D) := by unfold misdirect; rw [if_neg (by rw [hi]; simp)]
    rw [hm]
    have Hi := Lib.hid hi; clear hi hm
    have H := Lib.hid h; clear h
    clear hg hcap hd
    go_enter Try.func77, Try.ntmps77
    go_wp2_with fail
    refine (ris_any g _ _ _ i w c0 false Hi.out).mono ?_; rintro e w' ⟨rfl, rfl⟩
    go_wp2_with fail
    go_ret
    exact ⟨rfl, H.out, Fr.refl _ _⟩
  | true =>
    cases ht : has D t with
    | false =>
      have hm : misdirect D i t = (1, D) := by unfold misdirect; rw [if_neg (by rw [ht]; simp)]
      rw [hm]
      have Hi := Lib.hid hi; clear hi hm
      have Ht := Lib.hid ht; clear ht
      have H := Lib.hid h; clear h
      clear hg hcap hd
      go_enter Try.func77, Try.ntmps77
      go_wp2_with fail
      refine (ris_any g _ _ _ i w c0 true Hi.out).mono ?_; rintro e w' ⟨rfl, rfl⟩
      go_wp2_with fail
      refine (ris_any g _ _ _ t w c0 false Ht.out).mono ?_; rintro e w' ⟨rfl, rfl⟩
      go_wp2_with fail
      go_ret
      exact ⟨rfl, H.out, Fr.refl _ _⟩
    | true =>
      have hi' := has_iff.1 hi
      obtain ⟨k, rfl⟩ : ∃ k : Nat, i = k := ⟨i.toNat, by omega⟩
      have hk : k < D.length := by omega
      have hm : misdirect D k t = (0, arm D k t) := by unfold misdirect; rw [if_pos ⟨hi, ht⟩]; rfl
      rw [hm]
      rcases hd with hd | ⟨rfl, hgl, cs, hb, hz, hs⟩
      · subst hd; simp at hk
      have hok := Ok.arm h.ok k t (.inr (has_iff.1 ht))
      have Hi := Lib.hid hi; clear hi hm
      have Ht := Lib.hid ht; clear ht
      have HB := Lib.hid hb; clear hb
      have HS := Lib.hid hs; clear hs
      have HG := Lib.hid hg; clear hg
      have HOK := Lib.hid hok; clear hok
      have k0 : (0 : Int) ≤ k := by omega
      have k1 : (k : Int) < D.length := by omega
      clear hi' h
      go_enter Try.func77, Try.ntmps77
      go_wp2_with fail
      refine (ris_any g _ _ _ k w c0 true Hi.out).mono ?_; rintro e w' ⟨rfl, rfl⟩
      go_wp2_with fail
      refine (ris_any g _ _ _ t w c0 true Ht.out).mono ?_; rintro e w' ⟨rfl, rfl⟩
      go_wp2_with (first
        | (refine im_store1 rfl 3 _ _ rfl (v := .int .i64 t) rfl rfl rfl (by kernel_rfl) HB.out (by omega) ?_; intro w1 b1 f1 z1; have B1 := Lib.hid b1; clear b1; clear z1))
      go_ret
      exact ⟨rfl, RefAt.armed t HOK.out hgl HG.out hcap HB.out hz HS.out hk f1 B1.out, f1⟩

theorem rread_calls (g bl : Nat) (D : Dsk) (i : Int) (w : World) (h : RefAt w g bl D) :
    Calls Try.prog 66 #[.pointer (some ⟨g, 0, none⟩), .int .i64 i] w fun e w' => e = .returned (.tuple #[.string ⟨(Dsk0.read D i).1.toArray⟩, .int .i64 (Dsk0.read D i).2]) ∧ Fr (fun _ => False) w w' := by
  obtain ⟨av, cap, c0, hg, hcap, hd⟩ := h.open_
  cases hi : has D i with
  | false =>
    have Hi := Lib.hid hi; clear hi
    unfold Dsk0.read
    rw [if_neg (by rw [Hi.out]; decide)]
    clear hg hcap hd h
    go_enter Try.func66, Try.ntmps66
    go_wp2_with fail
    refine (ris_any g _ _ _ i w c0 false Hi.out).mono ?_; rintro e w' ⟨rfl, rfl⟩
    go_wp2_with fail
    go_ret2
    exact ⟨rfl, Fr.refl _ _⟩
  | true =>
    have hi' := has_iff.1 hi
    obtain ⟨k, rfl⟩ : ∃ k : Nat, i = k := ⟨i.toNat, by omega⟩
    have hk : k < D.length := by omega
    have hget : D[k]? = some D[k] := List.getElem?_eq_getElem hk
    have hrd : Dsk0.read D k = (cont D[k], 0) := by unfold Dsk0.read; rw [if_pos hi, Int.toNat_natCast, hget]; rfl
    rw [hrd]
    rcases hd with hd | ⟨rfl, hgl, cs, hb, hz, hs⟩
    · subst hd; simp at hk
    obtain ⟨⟨dv, h1, h2⟩, ⟨cv, h3, h4⟩, h5, h6⟩ := hs k _ hget
    have k0 : (0 : Int) ≤ k := by omega
    have k1 : (k : Int) < D.length := by omega
    have Hi := Lib.hid hi; clear hi
    have c2 : w.cell? ⟨bl, k * 4 + 2, none⟩ = some (.bool D[k].cac.isSome) := (cell_of_blk hb).trans h5
    cases hq : D[k].cac with
    | some l =>
      have hc : cont D[k] = l := by unfold cont; rw [hq]; rfl
      rw [hc]
      rw [hq] at c2
      obtain ⟨b, cp, cs2, fr, rfl, hcp, hb2, hcells⟩ := h4 l hq
      have c1 : w.cell? ⟨bl, k * 4 + 1, none⟩ = some (.slice (some ⟨b, 0, none⟩) l.length cp) := (cell_of_blk hb).trans h3
      have HB2 := Lib.hid hb2; clear hb2
      have HCL := Lib.hid hcells; clear hcells
      clear h1 h2 h3 h4 h5 h6 hs hb hg hi' hget hrd h hc hq
      go_enter Try.func66, Try.ntmps66
      go_wp2_with fail
      refine (ris_any g _ _ _ k w c0 true Hi.out).mono ?_; rintro e w' ⟨rfl, rfl⟩
      go_wp2_with (first
        | (refine im_back rfl 70 9 _ rfl rfl u70 u5 u9 HB2.out rfl HCL.out ?_))
      go_ret2
      exact ⟨rfl, Fr.refl _ _⟩
    | none =>
      have hc : cont D[k] = D[k].dur := by unfold cont; rw [hq]; rfl
      rw [hc]
      rw [hq] at c2
      obtain ⟨l, hl⟩ : ∃ l, l = D[k].dur := ⟨_, rfl⟩
      rw [← hl] at h2 ⊢
      obtain ⟨b, cp, cs2, fr, rfl, hcp, hb2, hcells⟩ := h2
      have c1 : w.cell? ⟨bl, k * 4, none⟩ = some (.slice (some ⟨b, 0, none⟩) l.length cp) := (cell_of_blk hb).trans h1
      have HB2 := Lib.hid hb2; clear hb2
      have HCL := Lib.hid hcells; clear hcells
      clear h1 h3 h4 h5 h6 hs hb hg hi' hget hrd h hc hq hl
      go_enter Try.func66, Try.ntmps66
      go_wp2_with fail
      refine (ris_any g _ _ _ k w c0 true Hi.out).mono ?_; rintro e w' ⟨rfl, rfl⟩
      go_wp2_with (first
        | (refine im_back rfl 70 9 _ rfl rfl u70 u5 u9 HB2.out rfl HCL.out ?_))
      go_ret2
      exact ⟨rfl, Fr.refl _ _⟩

end Go.Proofs.Ytmbkmfpnjpkakaa
