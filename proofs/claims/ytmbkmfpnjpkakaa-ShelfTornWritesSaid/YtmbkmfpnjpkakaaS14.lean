/- The program's shelf: Kill, Mount. -/
import Derived.Test.YtmbkmfpnjpkakaaS13
namespace Go.Shf0
open Go.Dsk0
theorem Ok.setBay {S : Shelf} (h : Ok S) {k : Nat} {b : Bay} (h1 : Dsk0.Ok b.D) (h2 : b.st ≠ 2 → (b.D.length : Int) = sectors S.cfg) (h3 : b.st = 1 ∨ b.st = 2 ∨ b.st = 3) : Ok { S with bays := S.bays.set k b } := by
  have hm : ∀ y ∈ S.bays.set k b, y ∈ S.bays ∨ y = b := fun y hy => List.mem_or_eq_of_mem_set hy
  refine ⟨h.cfg, h.sec, by simpa using h.num, fun y hy => ?_, fun y hy hs => ?_, fun y hy => ?_, h.img⟩
  · rcases hm y hy with hy | rfl
    · exact h.bay y hy
    · exact h1
  · rcases hm y hy with hy | rfl
    · exact h.len y hy hs
    · exact h2 hs
  · rcases hm y hy with hy | rfl
    · exact h.st y hy
    · exact h3
theorem want_zero {S : Shelf} {d : Int} {inn : Bool} {er : Int} (he : er ≠ 0) (h : want S d inn er = 0) : 0 ≤ d ∧ d < S.bays.length ∧ (decide (state S d = 1) = inn) := by
  unfold want at h
  split at h
  · simp at h
  · rename_i h0
    split at h
    · exact absurd h he
    · rename_i h1
      obtain ⟨a, b⟩ := state_ne h0
      exact ⟨a, b, Classical.not_not.1 h1⟩
theorem modify_set {α : Type} {l : List α} {k : Nat} {x : α} (h : l[k]? = some x) (f : α → α) : l.modify k f = l.set k (f x) := by
  apply List.ext_getElem?; intro i
  rw [List.getElem?_modify, List.getElem?_set]
  by_cases hik : k = i
  · subst hik
    obtain ⟨h1, h2⟩ := List.getElem?_eq_some_iff.1 h
    simp [h1, h2]
  · cases l[i]? <;> simp [hik]
/-- One bay further. -/
theorem cutBays_in {l : List Bay} {k : Nat} {b : Bay} (h : l[k]? = some b) (hs : b.st = 1) (ps : List Int) (b' : Bay) (hb' : b' = { b with D := cut b.D (ps.take (pend b.D).length) }) : l.take k ++ cutBays (l.drop k) ps = (l.set k b').take (k + 1) ++ cutBays ((l.set k b').drop (k + 1)) (ps.drop (pend b.D).length) := by
  obtain ⟨h1, h2⟩ := List.getElem?_eq_some_iff.1 h
  rw [List.drop_eq_getElem_cons h1, h2, cutBays, if_pos hs, List.take_add_one, List.take_set_of_le (Nat.le_refl _), List.getElem?_set_self h1, List.drop_set_of_lt (by omega), hb']
  simp
theorem cutBays_out {l : List Bay} {k : Nat} {b : Bay} (h : l[k]? = some b) (hs : b.st ≠ 1) (ps : List Int) : l.take k ++ cutBays (l.drop k) ps = l.take (k + 1) ++ cutBays (l.drop (k + 1)) ps := by
  obtain ⟨h1, h2⟩ := List.getElem?_eq_some_iff.1 h
  rw [List.drop_eq_getElem_cons h1, h2, cutBays, if_neg hs, List.take_add_one, h]
  simp
end Go.Shf0
namespace Go.Proofs.Ytmbkmfpnjpkakaa
open Go.RowKit Go.Im Go.Dsk0
section
variable {w : World} {O : Nat → Prop} {s : Nat} {S : Shf0.Shelf}

/-- A bay that is there. -/
theorem ShelfIn.at {bs : List (Loc × Shf0.Bay)} {im : List (Loc × Dsk)} {bv iv : Value} (h : ShelfIn w O s S bs im bv iv) {k : Nat} (hk : k < S.bays.length) : ∃ L b, bs[k]? = some (L, b) ∧ S.bays[k]? = some b ∧ k < bs.length := by
  have hl := h.pos.2.2
  obtain ⟨⟨L, b⟩, hx⟩ : ∃ x, bs[k]? = some x := ⟨_, List.getElem?_eq_getElem (by omega)⟩
  exact ⟨L, b, hx, by rw [h.eb, List.getElem?_map, hx]; rfl, by omega⟩
theorem ShelfIn.apartB {bs : List (Loc × Shf0.Bay)} {im : List (Loc × Dsk)} {bv iv : Value} (h : ShelfIn w O s S bs im bv iv) {k : Nat} {L : Loc} {b : Shf0.Bay} (hx : bs[k]? = some (L, b)) : (∀ j x, j ≠ k → bs[j]? = some x → Apart L x.1) ∧ (∀ x ∈ im, Apart L x.1) := by
  have h1 : (bs.map (·.1) ++ im.map (·.1))[k]? = some L := by
    rw [List.getElem?_append_left (by simp; exact (List.getElem?_eq_some_iff.1 hx).1), List.getElem?_map, hx]; rfl
  refine ⟨fun j x hj hy => ?_, fun x hy => ?_⟩
  · have h2 : (bs.map (·.1) ++ im.map (·.1))[j]? = some x.1 := by
      rw [List.getElem?_append_left (by simp; exact (List.getElem?_eq_some_iff.1 hy).1), List.getElem?_map, hy]; rfl
    exact pair_mem Apart.symm h.apart h1 h2 (fun e => hj e.symm)
  · obtain ⟨j, hj⟩ := List.mem_iff_getElem?.1 hy
    have h2 : (bs.map (·.1) ++ im.map (·.1))[bs.length + j]? = some x.1 := by
      rw [List.getElem?_append_right (by simp), List.getElem?_map]; simp [hj]
    exact pair_mem Apart.symm h.apart h1 h2 (by have := (List.getElem?_eq_some_iff.1 hx).1; omega)

set_option maxRecDepth 100000 in
theorem kill_calls (h : ShelfAt w O s S) (d : Int) : Calls Try.prog 112 #[.pointer (some ⟨s, 0, none⟩), .int .i64 d] w fun e w' => e = .returned (.int .i64 (Shf0.kill S d).1) ∧ ShelfAt w' O s (Shf0.kill S d).2 ∧ Fr O w w' := by
  have H := Lib.hid h
  obtain ⟨R, hR⟩ : ∃ R, R = Shf0.kill S d := ⟨_, rfl⟩
  obtain ⟨wt, hwt⟩ : ∃ wt, wt = Shf0.want S d true 15 := ⟨_, rfl⟩
  have hR' : R = if wt = 0 then (0, Shf0.turnS S d.toNat 3) else (wt, S) := by rw [hR, hwt]; rfl
  rw [← hR]
  clear hR
  by_cases h0 : wt = 0
  · rw [if_pos h0] at hR'
    obtain ⟨d0, d1, hst⟩ := Shf0.want_zero (er := 15) (by decide) (hwt.symm.trans h0)
    obtain ⟨k, rfl⟩ : ∃ k : Nat, d = k := ⟨d.toNat, by omega⟩
    rw [Int.toNat_natCast] at hR'
    obtain ⟨bs, im, bv, iv, hin⟩ := h
    obtain ⟨L, b, hx, hsb, hk⟩ := hin.at (k := k) (by omega)
    obtain ⟨vb, cap, cur, hbv, hvb, hcz, hOv, hcell⟩ := hin.open_
    obtain ⟨c0, c1⟩ := hcell k _ hx
    have hb1 : b.st = 1 := by
      have := state_at hin hx
      simp only at this
      rw [this] at hst
      simpa using hst
    have hS' : Shf0.turnS S k 3 = { S with bays := S.bays.set k { b with st := 3 } } := by unfold Shf0.turnS; rw [Shf0.modify_set hsb]
    rw [hS'] at hR'
    subst hR'
    have hcur : (cur.setIfInBounds (k * 2) L.ptr) = cur := by
      apply Array.ext_getElem?; intro q
      by_cases hq : k * 2 = q
      · subst hq
        rw [Array.getElem?_setIfInBounds_self_of_lt (by omega)]
        exact ((cell_of_blk hvb).symm.trans c0).symm
      · rw [Array.getElem?_setIfInBounds_ne hq]
    have c6 : w.cell? ⟨s, 6, none⟩ = some (.slice (some ⟨vb, 0, none⟩) bs.length cap) := by rw [← hbv]; exact cell_of_blk hin.head
    have HB := Lib.hid hvb
    have hok := hin.ok.setBay (k := k) (b := { b with st := 3 }) (hin.ok.bay b (List.mem_of_getElem? hsb)) (fun _ => hin.ok.len b (List.mem_of_getElem? hsb) (by omega)) (.inr (.inr rfl))
    have HOK := Lib.hid hok
    have HIN := Lib.hid hin
    have HX := Lib.hid hx
    have HBV := Lib.hid hbv
    have HCUR := Lib.hid hcur
    have HWT := Lib.hid hwt
    have hbw : (wt == 0) = true := by simp [h0]
    have k0 : (0 : Int) ≤ k := by omega
    have k1 : (k : Int) < bs.length := by omega
    have hkc : k * 2 + 1 < cur.size := by omega
    have H0 := Lib.hid h0
    clear hcell hin hx hvb hbv hwt hcur hok c0 c1 hst hb1 hsb h0 d1 hS'
    go_enter Try.func112, Try.ntmps112
    go_wp2_with fail
    refine (want_calls H.out (k : Int) true 15).mono ?_; rintro e w1 ⟨rfl, rfl⟩
    rw [← HWT.out]
    go_wp2_with (first
      | (refine im_store1 rfl 3 _ _ rfl (b := vb) (j := k * 2 + 1) (v := .int .i64 3) rfl rfl rfl (by kernel_rfl) HB.out hkc ?_; intro w2 b2 f2 z2; have B2 := Lib.hid b2; clear b2; clear z2))
    go_ret
    have hap := HIN.out.apartB HX.out
    refine ⟨by rw [H0.out]; rfl, ⟨_, _, _, _, HIN.out.setBay (L := L) (b := { b with st := 3 }) hk HBV.out HB.out f2 (by rw [HCUR.out]; exact B2.out) (HIN.out.kb _ (List.mem_of_getElem? HX.out)) hap.1 hap.2 (fun _ h => h) (foot_in HIN.out HX.out) HIN.out.olt HOK.out⟩, f2.mono fun q _ hq => by rw [hq]; exact hOv⟩
  · rw [if_neg h0] at hR'
    subst hR'
    have HWT := Lib.hid hwt
    have hbw : (wt == 0) = false := by simp [h0]
    clear hwt h0 h
    go_enter Try.func112, Try.ntmps112
    go_wp2_with fail
    refine (want_calls H.out d true 15).mono ?_; rintro e w1 ⟨rfl, rfl⟩
    rw [← HWT.out]
    go_wp2_with fail
    go_ret
    exact ⟨rfl, H.out, Fr.refl _ _⟩

/-- A list of picks cut in two. -/
theorem ints_cut {w : World} {a : Option Addr} {c : Nat} {ps : List Int} {ok : Nat → Prop} (h : IntsAt w (.slice a ps.length c) ps ok) (n : Nat) (hn : n ≤ ps.length) (hc : ps.length ≤ c) :
    (∃ c', (∀ W, (Instr.slice 46 (.slice a ps.length c) none (some (.int .i64 (n : Int))) none).run Try.prog W = .ok (.slice a n c') W) ∧ IntsAt w (.slice a n c') (ps.take n) ok) ∧
    (∃ a' c', (∀ W, (Instr.slice 46 (.slice a ps.length c) (some (.int .i64 (n : Int))) none none).run Try.prog W = .ok (.slice a' (ps.length - n) c') W) ∧ IntsAt w (.slice a' (ps.length - n) c') (ps.drop n) ok ∧ ps.length - n ≤ c') := by
  obtain ⟨a1, c1, h1, h2, h3⟩ := h
  injection h1 with e1 _ e2
  subst e1
  subst e2
  constructor
  · refine ⟨c, fun W => ?_, a, c, by rw [List.length_take, Nat.min_eq_left hn], by rw [List.length_take]; omega, ?_⟩
    · rw [run_slice_h (P := Try.prog) W 46 a ps.length c (by kernel_rfl) .i64 (n : Int) (by omega) (by omega)]
      rw [show (sizeOf (Try.prog.elem 46)).run Try.prog W = .ok 1 W by kernel_rfl]
      simp only [Result.andThen_ok, sliced, Int.toNat_natCast, Nat.zero_mul, Nat.sub_zero]
      congr 2
      split
      · rfl
      · cases a with
        | none => rfl
        | some a => simp [Addr.add]
    · rcases h3 with h3 | ⟨b, o, h4, h5, h6, h7⟩
      · exact .inl (by rw [h3]; simp)
      · refine .inr ⟨b, o, h4, h5, h6, fun j x hx => h7 j x ?_⟩
        rw [List.getElem?_take] at hx
        split at hx
        · exact hx
        · cases hx
  · have hrun : ∀ W, (Instr.slice 46 (.slice a ps.length c) (some (.int .i64 (n : Int))) none none).run Try.prog W = .ok (.slice (if c = n then a else a.map (·.add n)) (ps.length - n) (c - n)) W := fun W => by
      rw [run_slice_l (P := Try.prog) W 46 a ps.length c (by kernel_rfl) .i64 (n : Int) (by omega) (by omega)]
      rw [show (sizeOf (Try.prog.elem 46)).run Try.prog W = .ok 1 W by kernel_rfl]
      simp only [Result.andThen_ok, sliced, Int.toNat_natCast, Nat.mul_one]
    refine ⟨_, _, hrun, ⟨_, _, by rw [List.length_drop], by rw [List.length_drop]; omega, ?_⟩, by omega⟩
    by_cases hd : ps.drop n = []
    · exact .inl hd
    · have hlt : n < ps.length := Nat.not_le.1 fun h => hd (List.drop_of_length_le h)
      rcases h3 with h3 | ⟨b, o, h4, h5, h6, h7⟩
      · rw [h3] at hlt; simp at hlt
      · refine .inr ⟨b, o + n, ?_, h5, h6, fun j x hx => ?_⟩
        · rw [if_neg (by omega), h4]
          simp only [Option.map_some, Addr.add]
          split
          · rename_i h; subst h; rfl
          · rfl
        · rw [List.getElem?_drop] at hx
          rw [Nat.add_assoc]
          exact h7 _ x hx
end
end Go.Proofs.Ytmbkmfpnjpkakaa
