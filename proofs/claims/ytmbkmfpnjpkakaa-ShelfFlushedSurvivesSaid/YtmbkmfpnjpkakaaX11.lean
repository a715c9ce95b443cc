/- The shelf laws' helper built, with a script. -/
import Derived.Test.YtmbkmfpnjpkakaaX10
namespace Go.Proofs.Ytmbkmfpnjpkakaa
open Go.RowKit Go.Im Go.Dsk0

/-- What built answers. -/
def Built (c : Shf0.Cfg) (l : List Shf0.SOp) (w : World) (e : Ending) (w' : World) : Prop :=
  (¬ (Shf0.valid c ∧ Shf0.small c = true ∧ l.length ≤ 60) ∧ e = .returned (.tuple #[.pointer none, .bool false]) ∧ Fr (fun _ => False) w w') ∨
  (Shf0.valid c ∧ Shf0.small c = true ∧ l.length ≤ 60 ∧ ∃ s : Nat, e = .returned (.tuple #[.pointer (some ⟨s, 0, none⟩), .bool true]) ∧ ShelfAt w' (fun q => w.heap.size ≤ q ∧ q < w'.heap.size) s (Shf0.play (Shf0.newS c) l) ∧ Fr (fun _ => False) w w')

set_option maxRecDepth 100000 in
set_option maxHeartbeats 2000000 in
theorem built_calls (c : Shf0.Cfg) (l : List Shf0.SOp) (v : Value) (w : World) (hl : SOpsAt w v l (fun b => b < w.heap.size)) : Calls Try.prog 45 #[cfgV c, v] w fun e w' => Built c l w e w' := by
  obtain ⟨sa, sc, rfl, hlm, hsc⟩ := hl
  obtain ⟨N, hN⟩ : ∃ N, N = l.length := ⟨_, rfl⟩
  rw [← hN] at hlm ⊢
  by_cases hv : Shf0.valid c
  · cases hsm : Shf0.small c with
    | false =>
      have hs := fun W => small_calls c W hv
      rw [hsm] at hs
      have hno : ¬ (Shf0.valid c ∧ Shf0.small c = true ∧ l.length ≤ 60) := fun h => by rw [hsm] at h; exact absurd h.2.1 (by simp)
      have HNO := Lib.hid hno
      have HS := Lib.hid hs
      clear hs hno hsm hv hN
      unfold cfgV at HS ⊢
      go_enter Try.func45, Try.ntmps45
      go_wp2_with (first
        | (refine im_box rfl 23 _ rfl rfl ?_; intro w1 b1 f1 z1; have Z1 := Lib.hid z1; clear z1; obtain ⟨p0, p1, p2, p3, p4, p5⟩ := cfgA_cells (c := c) b1; have hl1 := lt_of_blk b1; clear b1))
      refine (HS.out w1).mono ?_; rintro e w2 ⟨rfl, f2⟩
      go_wp2_with fail
      go_ret2
      exact .inl ⟨HNO.out, rfl, f1.trans f2⟩
    | true =>
      have hs := fun W => small_calls c W hv
      rw [hsm] at hs
      have hnw := fun W => snew_ok c W hv (small_sec hsm)
      have HV := Lib.hid (And.intro hv hsm)
      have HS := Lib.hid hs
      have HNW := Lib.hid hnw
      have HSC := Lib.hid hsc
      have HN := Lib.hid hN
      clear hs hnw hsm hv hsc hN
      unfold cfgV at HS HNW ⊢
      by_cases hbig : 60 < N
      · skip
        go_enter Try.func45, Try.ntmps45
        go_wp2_with (first
          | (refine im_box rfl 23 _ rfl rfl ?_; intro w1 b1 f1 z1; have Z1 := Lib.hid z1; clear z1; obtain ⟨p0, p1, p2, p3, p4, p5⟩ := cfgA_cells (c := c) b1; have hl1 := lt_of_blk b1; clear b1))
        refine (HS.out w1).mono ?_; rintro e w2 ⟨rfl, f2⟩
        go_wp2_with fail
        go_ret2
        exact .inl ⟨fun h => by have h1 := h.2.2; have h2 := HN.out; omega, rfl, f1.trans f2⟩
      go_enter Try.func45, Try.ntmps45
      go_wp2_with (first
        | (refine im_box rfl 23 _ rfl rfl ?_; intro w1 b1 f1 z1; have Z1 := Lib.hid z1; clear z1; obtain ⟨p0, p1, p2, p3, p4, p5⟩ := cfgA_cells (c := c) b1; have hl1 := lt_of_blk b1; clear b1))
      refine (HS.out w1).mono ?_; rintro e w2 ⟨rfl, f2⟩
      have q0 := (f2.cb hl1 (fun h => h)).trans p0
      have q1 := (f2.cb hl1 (fun h => h)).trans p1
      have q2 := (f2.cb hl1 (fun h => h)).trans p2
      have q3 := (f2.cb hl1 (fun h => h)).trans p3
      have q4 := (f2.cb hl1 (fun h => h)).trans p4
      have q5 := (f2.cb hl1 (fun h => h)).trans p5
      clear p0 p1 p2 p3 p4 p5
      go_wp2_with fail
      refine (HNW.out w2).mono ?_; rintro e w3 ⟨s, rfl, h3, f3⟩
      have f12 := f1.trans f2
      have hsz := f12.size
      have H3 := Lib.hid (h3.mono (O' := fun q => w.heap.size ≤ q ∧ q < w3.heap.size) (fun q hq => ⟨by omega, hq.2⟩) (fun q hq => hq.2)); clear h3
      have F3 := Lib.hid (f12.trans f3)
      clear f3 f12 f2 f1
      go_wp2_with fail
      go_loopg [8] N (fun m t wr => ∃ k : Nat, m + k = N ∧ t = .int .i64 k ∧ ShelfAt wr (fun q => w.heap.size ≤ q ∧ q < wr.heap.size) s (Shf0.play (Shf0.newS c) (l.take k)) ∧ Fr (fun _ => False) w wr)
      case atStart => exact ⟨0, rfl, rfl, H3.out, F3.out⟩
      case round =>
        obtain ⟨k, hm, rfl, hat, hfr⟩ := hrel
        have HM := Lib.hid hm; clear hm
        have HAT := Lib.hid hat; clear hat
        have HFR := Lib.hid hfr; clear hfr
        by_cases hk : k < N
        · have hkl : k < l.length := by rw [← HN.out]; exact hk
          obtain ⟨o, ho⟩ : ∃ o, l[k]? = some o := ⟨_, List.getElem?_eq_getElem hkl⟩
          obtain ⟨b, p, rfl, hb, -, hops⟩ := HSC.out.resolve_left (fun h => by rw [h] at hkl; simp at hkl)
          obtain ⟨pa, pc, hop⟩ := hops k o ho
          have HPK := Lib.hid (hop.picks.fr HFR.out (fun _ _ _ h => h))
          have hcap := hop.cap
          obtain ⟨kind, ⟨a0, a1, a2⟩, ⟨c0, c1, c2⟩, n, fill, size, picks⟩ := o
          simp only at HPK hcap
          have HE := Lib.hid (fun u v hv => (HFR.out.cb hb (fun h => h)).trans (hop.cells u v hv))
          have e0 : wr.cell? ⟨b, p + k * 11, none⟩ = some (.int .i64 kind) := HE.out 0 _ rfl
          have e1 : wr.cell? ⟨b, p + k * 11 + 1, none⟩ = some (.int .i64 a0) := HE.out 1 _ rfl
          have e2 : wr.cell? ⟨b, p + k * 11 + 2, none⟩ = some (.int .i64 a1) := HE.out 2 _ rfl
          have e3 : wr.cell? ⟨b, p + k * 11 + 3, none⟩ = some (.int .i64 a2) := HE.out 3 _ rfl
          have e4 : wr.cell? ⟨b, p + k * 11 + 4, none⟩ = some (.int .i64 c0) := HE.out 4 _ rfl
          have e5 : wr.cell? ⟨b, p + k * 11 + 5, none⟩ = some (.int .i64 c1) := HE.out 5 _ rfl
          have e6 : wr.cell? ⟨b, p + k * 11 + 6, none⟩ = some (.int .i64 c2) := HE.out 6 _ rfl
          have e7 : wr.cell? ⟨b, p + k * 11 + 7, none⟩ = some (.int .i64 n) := HE.out 7 _ rfl
          have e8 : wr.cell? ⟨b, p + k * 11 + 8, none⟩ = some (B fill) := HE.out 8 _ rfl
          have e9 : wr.cell? ⟨b, p + k * 11 + 9, none⟩ = some (.int .i64 size) := HE.out 9 _ rfl
          have e10 : wr.cell? ⟨b, p + k * 11 + 10, none⟩ = some (.slice pa picks.length pc) := HE.out 10 _ rfl
          have k1 : (k : Int) < N := by omega
          have HO := Lib.hid ho
          have him := Shf0.play_images (l.take k) (Shf0.newS c)
          have him0 : (Shf0.newS c).images.length = 0 := rfl
          have htk : (l.take k).length ≤ k := by rw [List.length_take]; omega
          have hN60 : N ≤ 60 := by omega
          have himg : (Shf0.play (Shf0.newS c) (l.take k)).images.length ≤ 1000 := by omega
          clear hop hops ho hkl him him0 htk
          go_wp2_with fail
          refine (sdo_calls HAT.out ⟨kind, ⟨a0, a1, a2⟩, ⟨c0, c1, c2⟩, n, fill, size, picks⟩ pa pc (HPK.out.imp (fun q h1 h2 h => by first | exact Nat.lt_irrefl _ (Nat.lt_of_lt_of_le h1 h.1) | exact Nat.lt_irrefl _ (Nat.lt_of_lt_of_le h2 h.1))) hcap himg).mono ?_; rintro e w4 ⟨rfl, h4, f4⟩
          have H4 := Lib.hid h4; clear h4
          have F4 := Lib.hid f4; clear f4
          have hn : gk + k = N := HM.out
          go_wp2_with fail
          go_roundg (gk - 1)
          case measure => omega
          case rel =>
            have hsz4 := F4.out.size
            have hszr := HFR.out.size
            refine ⟨k + 1, by omega, by go_num, ?_, HFR.out.trans' F4.out (fun _ _ h => h) (fun q hq h => Nat.lt_irrefl _ (Nat.lt_of_lt_of_le hq h.1))⟩
            have hpl : Shf0.play (Shf0.newS c) (l.take (k + 1)) = (Shf0.doOp (Shf0.play (Shf0.newS c) (l.take k)) ⟨kind, ⟨a0, a1, a2⟩, ⟨c0, c1, c2⟩, n, fill, size, picks⟩).2 := by
              rw [List.take_add_one, HO.out]; exact Shf0.play_snoc _ _ _
            rw [hpl]
            exact H4.out.mono (fun q hq => by rcases hq with hq | hq <;> omega) (fun q hq => hq.2)
        · have hkn : k = N := by have := HM.out; omega
          subst hkn
          clear hk
          go_wp2_with fail
          go_ret2
          refine .inr ⟨HV.out.1, HV.out.2, by have := HN.out; omega, s, rfl, ?_, HFR.out⟩
          have := HAT.out
          rw [List.take_of_length_le (by have := HN.out; omega)] at this
          exact this
  · have hs := fun W => small_some c W
    have hnw := fun W => snew_bad c W hv
    have hno : ¬ (Shf0.valid c ∧ Shf0.small c = true ∧ l.length ≤ 60) := fun h => hv h.1
    have HNO := Lib.hid hno
    have HS := Lib.hid hs
    have HNW := Lib.hid hnw
    clear hs hnw hno hv hN
    unfold cfgV at HS HNW ⊢
    go_enter Try.func45, Try.ntmps45
    go_wp2_with (first
      | (refine im_box rfl 23 _ rfl rfl ?_; intro w1 b1 f1 z1; have Z1 := Lib.hid z1; clear z1; obtain ⟨p0, p1, p2, p3, p4, p5⟩ := cfgA_cells (c := c) b1; have hl1 := lt_of_blk b1; clear b1))
    refine (HS.out w1).mono ?_; rintro e w2 ⟨b, rfl, f2⟩
    have q0 := (f2.cb hl1 (fun h => h)).trans p0
    have q1 := (f2.cb hl1 (fun h => h)).trans p1
    have q2 := (f2.cb hl1 (fun h => h)).trans p2
    have q3 := (f2.cb hl1 (fun h => h)).trans p3
    have q4 := (f2.cb hl1 (fun h => h)).trans p4
    have q5 := (f2.cb hl1 (fun h => h)).trans p5
    clear p0 p1 p2 p3 p4 p5
    cases b
    · go_wp2_with fail
      go_ret2
      exact .inl ⟨HNO.out, rfl, f1.trans f2⟩
    · by_cases hbig : 60 < N
      · go_wp2_with fail
        go_ret2
        exact .inl ⟨HNO.out, rfl, f1.trans f2⟩
      go_wp2_with fail
      refine (HNW.out w2).mono ?_; rintro e w3 ⟨rfl, f3⟩
      go_wp2_with fail
      go_ret2
      exact .inl ⟨HNO.out, rfl, (f1.trans f2).trans f3⟩
end Go.Proofs.Ytmbkmfpnjpkakaa
