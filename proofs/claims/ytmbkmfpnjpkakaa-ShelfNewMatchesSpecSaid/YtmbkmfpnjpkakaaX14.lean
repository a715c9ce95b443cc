/- The reference's Places: the walk. -/
import Derived.Test.YtmbkmfpnjpkakaaX13
namespace Go.Shf0
theorem flat_le {α : Type} (f : Nat → List α) (m : Nat) (h : ∀ i, (f i).length ≤ m) : ∀ n, ((List.range n).flatMap f).length ≤ n * m
  | 0 => by simp
  | n + 1 => by
    rw [List.range_succ, List.flatMap_append, List.length_append]
    have h1 := flat_le f m h n
    have h2 := h n
    simp only [List.flatMap_cons, List.flatMap_nil, List.append_nil, Nat.add_mul, Nat.one_mul]
    omega
theorem small_size {c : Cfg} (h : small c = true) (a : Nat) : ((sizes c)[a]?).getD 0 ≤ 24 := by
  have h1 := of_decide_eq_true h
  unfold sizes
  match a with
  | 0 => simpa using h1.2.1
  | 1 => simpa using h1.2.2.1
  | 2 => simpa using h1.2.2.1
  | 3 => simpa using h1.2.2.2.1
  | a + 4 => simp
theorem rowP_le {c : Cfg} (h : small c = true) (d a : Nat) : (rowP c d a).length ≤ 24 := by
  have := small_size h a
  unfold rowP
  rw [List.length_map, List.length_range]
  omega
theorem diskP_le {c : Cfg} (h : small c = true) (d : Nat) : (diskP c d).length ≤ 96 := flat_le _ 24 (rowP_le h d) 4
/-- The places ahead of one. -/
def preP (c : Cfg) (d a i : Nat) : List Place := ((List.range d).flatMap (diskP c) ++ (List.range a).flatMap (rowP c d)) ++ (List.range i).map fun (i : Nat) => ⟨(d : Int), (a : Int) + 1, (i : Int)⟩
theorem pre_row {c : Cfg} {d a z : Nat} (h : (((sizes c)[a]?).getD 0).toNat = z) : preP c d a z = preP c d (a + 1) 0 := by
  unfold preP
  rw [List.range_succ, List.flatMap_append, List.flatMap_cons, List.flatMap_nil, List.append_nil, List.range_zero, List.map_nil, List.append_nil, ← List.append_assoc]
  unfold rowP
  rw [h]
theorem pre_disk (c : Cfg) (d : Nat) : preP c d 4 0 = preP c (d + 1) 0 0 := by
  have h : ((List.range (d + 1)).flatMap (diskP c)) = (List.range d).flatMap (diskP c) ++ diskP c d := by
    rw [List.range_succ, List.flatMap_append, List.flatMap_cons, List.flatMap_nil, List.append_nil]
  unfold preP
  rw [h, List.range_zero, List.map_nil, List.append_nil, List.map_nil, List.append_nil, List.flatMap_nil, List.append_nil]
  rfl
theorem pre_snoc (c : Cfg) (d a i : Nat) : preP c d a (i + 1) = preP c d a i ++ [⟨(d : Int), (a : Int) + 1, (i : Int)⟩] := by
  unfold preP
  rw [List.range_succ, List.map_append, ← List.append_assoc]
  rfl
theorem pre_all (c : Cfg) : preP c c.disks.toNat 0 0 = places c := by
  unfold preP places
  simp
theorem pre_len {c : Cfg} (hsm : small c = true) {d a i : Nat} (hi : i ≤ 24) (hd : d ≤ 6) (ha : a ≤ 4) : (preP c d a i).length ≤ 1000 := by
  have h1 := flat_le (diskP c) 96 (diskP_le hsm) d
  have h2 := flat_le (rowP c d) 24 (rowP_le hsm d) a
  unfold preP
  rw [List.length_append, List.length_append, List.length_map, List.length_range]
  omega
end Go.Shf0
namespace Go.Proofs.Ytmbkmfpnjpkakaa
open Go.RowKit Go.Im Go.Dsk0

theorem plcC_len (l : List Shf0.Place) : (l.flatMap plcC).length = l.length * 3 := by
  induction l with
  | nil => rfl
  | cons x l ih => rw [List.flatMap_cons, List.length_append, ih]; simp [plcC]; omega

/-- What Places leaves. -/
def PlacesR (c : Shf0.Cfg) (w : World) (e : Ending) (w' : World) : Prop := ∃ v, e = .returned v ∧ w'.ownsRow w.heap.size 25 3 v (Shf0.places c).length ((Shf0.places c).flatMap plcC) ∧ Fr (fun _ => False) w w'

set_option maxRecDepth 100000 in
set_option maxHeartbeats 4000000 in
theorem places_calls (c : Shf0.Cfg) (w : World) (hv : Shf0.valid c) (hsm : Shf0.small c = true) : Calls Try.prog 55 #[cfgV c] w fun e w' => PlacesR c w e w' := by
  obtain ⟨D, hD⟩ : ∃ D : Nat, c.disks = (D : Int) := ⟨c.disks.toNat, by have := hv.1.1; omega⟩
  have hD6 : D ≤ 6 := by have := (of_decide_eq_true hsm).1; omega
  have hsz : ∀ a : Nat, a < 4 → ∃ z : Nat, ((Shf0.sizes c)[a]?).getD 0 = (z : Int) ∧ z ≤ 24 := fun a ha => by
    obtain ⟨-, -, v3, v4, v5, v6, v7, v8⟩ := valid_bd hv
    have h24 := Shf0.small_size hsm a
    refine ⟨(((Shf0.sizes c)[a]?).getD 0).toNat, ?_, by omega⟩
    have : 0 ≤ ((Shf0.sizes c)[a]?).getD 0 := by
      unfold Shf0.sizes
      have : a = 0 ∨ a = 1 ∨ a = 2 ∨ a = 3 := by omega
      rcases this with rfl | rfl | rfl | rfl <;> simp <;> omega
    omega
  have hpre : ∀ d a i : Nat, i ≤ 24 → d ≤ 6 → a ≤ 4 → (Shf0.preP c d a i).length ≤ 1000 := fun d a i hi hd ha => Shf0.pre_len hsm hi hd ha
  have HSZ := Lib.hid hsz
  have HPRE := Lib.hid hpre
  have HD := Lib.hid hD
  have hcv : cfgV c = .agg #[.int .i64 D, .int .i64 c.racks, .int .i64 c.rows, .int .i64 c.spare, .int .i64 c.log, .int .i64 c.image] := by unfold cfgV; rw [hD]
  rw [hcv]
  obtain ⟨n1, hn1⟩ : ∃ n1, n1 = c.racks := ⟨_, rfl⟩
  obtain ⟨n2, hn2⟩ : ∃ n2, n2 = c.rows := ⟨_, rfl⟩
  obtain ⟨n3, hn3⟩ : ∃ n3, n3 = c.spare := ⟨_, rfl⟩
  obtain ⟨n4, hn4⟩ : ∃ n4, n4 = c.log := ⟨_, rfl⟩
  obtain ⟨n5, hn5⟩ : ∃ n5, n5 = c.image := ⟨_, rfl⟩
  rw [← hn1, ← hn2, ← hn3, ← hn4, ← hn5]
  have HZS := Lib.hid (show Shf0.sizes c = [n4, n5, n5, n2] by unfold Shf0.sizes; rw [hn4, hn5, hn2])
  obtain ⟨i2, hi2, hy20, hy21, hy22⟩ := info_parts info25'
  clear hcv hn1 hn2 hn3 hn4 hn5 hD hsz hpre hv hsm
  go_enter Try.func55, Try.ntmps55
  go_wp2_with (first
    | (refine im_box rfl 23 _ rfl rfl ?_; intro w1 b1 f1 z1; have Z1 := Lib.hid z1; clear z1; obtain ⟨p0, p1, p2, p3, p4, p5⟩ := cfgA_cells (c := ⟨D, n1, n2, n3, n4, n5⟩) b1; have hl1 := lt_of_blk b1; have HB1 := Lib.hid b1; clear b1))
  obtain ⟨w2, hw2⟩ : ∃ w2, w2 = w1.alloc (.cells #[.int .i64 n4, .int .i64 n5, .int .i64 n5, .int .i64 n2] 3) := ⟨_, rfl⟩
  have b2 : w2.heap[w1.heap.size]? = some (.cells #[.int .i64 n4, .int .i64 n5, .int .i64 n5, .int .i64 n2] 3 (0, 0)) := by rw [hw2]; exact heap_alloc_new w1 _
  have f2 : Fr (fun _ => False) w1 w2 := by rw [hw2]; exact (Fr.refl _ _).alloc _
  rw [← hw2]
  clear hw2
  have q0 := (f2.cb hl1 (fun h => h)).trans p0
  have hl2 := Nat.lt_of_lt_of_le hl1 f2.size
  have hl3 := lt_of_blk b2
  have HF := Lib.hid (f1.trans f2)
  have hcell : ∀ a : Nat, a < 4 → ∃ z : Nat, w2.cell? ⟨w1.heap.size, a, none⟩ = some (.int .i64 z) ∧ (((Shf0.sizes c)[a]?).getD 0).toNat = z ∧ z ≤ 24 := fun a ha => by
    obtain ⟨z, h1, h2⟩ := HSZ.out a ha
    refine ⟨z, ?_, by omega, h2⟩
    rw [← h1, cell_of_blk b2, HZS.out]
    have : a = 0 ∨ a = 1 ∨ a = 2 ∨ a = 3 := by omega
    rcases this with rfl | rfl | rfl | rfl <;> rfl
  have HCELL := Lib.hid hcell
  clear hcell f1 f2 b2 p0 p1 p2 p3 p4 p5 HB1 HZS HSZ
  go_loopg [4, 5] D (fun m v t wr => ∃ d : Nat, m + d = D ∧ t = .int .i64 d ∧ wr.ownsRow w2.heap.size 25 3 v (Shf0.preP c d 0 0).length ((Shf0.preP c d 0 0).flatMap plcC) ∧ Fr (fun _ => False) w2 wr)
  case atStart => exact ⟨0, rfl, rfl, World.ownsRow_nil _ _ _ _, Fr.refl _ _⟩
  case round =>
    obtain ⟨d, hm, rfl, hrow, hfr⟩ := hrel
    have HM := Lib.hid hm; clear hm
    have HR := Lib.hid hrow; clear hrow
    have r0 := (hfr.cb hl2 (fun h => h)).trans q0
    have HFR := Lib.hid hfr; clear hfr
    by_cases hd : d < D
    · have hd1 : (d : Int) < D := by omega
      go_wp2_with fail
      obtain ⟨wo, hwo⟩ : ∃ wo, wo = wr := ⟨_, rfl⟩
      obtain ⟨go, hgo⟩ : ∃ go, go = gk := ⟨_, rfl⟩
      rw [← hwo] at HR HFR r0 ⊢
      rw [← hgo] at HM
      clear hwo
      go_loopg [4, 6] 4 (fun m v t wi => ∃ a : Nat, m + a = 4 ∧ t = .int .i64 a ∧ wi.ownsRow w2.heap.size 25 3 v (Shf0.preP c d a 0).length ((Shf0.preP c d a 0).flatMap plcC) ∧ Fr (fun _ => False) w2 wi)
      case atStart => exact ⟨0, rfl, rfl, HR.out, HFR.out⟩
      case round =>
        obtain ⟨a, hma, rfl, hrow, hfr⟩ := hrel
        have HMA := Lib.hid hma; clear hma
        have HRA := Lib.hid hrow; clear hrow
        have HFA := Lib.hid hfr; clear hfr
        by_cases ha : a < 4
        · have ha1 : (a : Int) < 4 := by omega
          obtain ⟨z, hc, hz, hz24⟩ := HCELL.out a ha
          have hc2 := (HFA.out.cb hl3 (fun h => h)).trans hc
          have HZ := Lib.hid hz; clear hz
          have HC := Lib.hid hc; clear hc
          go_wp2_with fail
          obtain ⟨wa, hwa⟩ : ∃ wa, wa = wr := ⟨_, rfl⟩
          obtain ⟨ga, hga⟩ : ∃ ga, ga = gk := ⟨_, rfl⟩
          rw [← hwa] at HRA HFA hc2 ⊢
          rw [← hga] at HMA
          clear hwa
          go_loopg [4, 7] z (fun m v t wi => ∃ i : Nat, m + i = z ∧ t = .int .i64 i ∧ wi.ownsRow w2.heap.size 25 3 v (Shf0.preP c d a i).length ((Shf0.preP c d a i).flatMap plcC) ∧ Fr (fun _ => False) w2 wi)
          case atStart => exact ⟨0, rfl, rfl, HRA.out, HFA.out⟩
          case round =>
            obtain ⟨i, hmi, rfl, hrow, hfr⟩ := hrel
            have HMI := Lib.hid hmi; clear hmi
            have HRI := Lib.hid hrow; clear hrow
            have hc3 := (hfr.cb hl3 (fun h => h)).trans HC.out
            have HFI := Lib.hid hfr; clear hfr
            by_cases hi' : i < z
            · have hi1 : (i : Int) < z := by omega
              have hlen := HPRE.out d a i (by omega) (by omega) (by omega)
              have hnn : (a : Int) + 1 ≤ 100 := by omega
              have HFIS := Lib.hid HFI.out.size
              go_wp2_with (first
                | (at_builtin; refine im_append1 rfl _ _ 92 rfl w2.heap.size mt92 hi2 hy20 hy21 hy22 rfl (by decide) rfl (row_keep' HRI.out ((Fr.refl (fun _ => False) _).alloc _)) rfl (heap_alloc_new _ _) rfl (by simp [Value.oneCell']) (by unfold maxLen; omega) (by omega) (by have := HFIS.out; simp; omega) ?_; intro v7 w7 r7 f7; have R7 := Lib.hid r7; clear r7))
              have f67 : Fr (fun q => w2.heap.size ≤ q) wr w7 := ((Fr.refl (fun q => w2.heap.size ≤ q) wr).alloc _).trans f7
              have fa := fr_below' (HFI.out.no.trans f67)
              have hni : gk + i = z := HMI.out
              have RR := R7.out
              go_roundg (gk - 1)
              case measure => omega
              case rel =>
                refine ⟨i + 1, by omega, by go_num, ?_, fa⟩
                rw [Shf0.pre_snoc, List.flatMap_append, List.length_append]
                exact RR
            · have hin : i = z := by have := HMI.out; omega
              subst hin
              clear hi'
              go_wp2_with fail
              have hn4 : ga + a = 4 := HMA.out
              have hrow := HRI.out
              rw [Shf0.pre_row HZ.out] at hrow
              go_roundg (ga - 1)
              case measure => omega
              case rel => exact ⟨a + 1, by omega, by go_num, hrow, HFI.out⟩
        · have han : a = 4 := by have := HMA.out; omega
          subst han
          clear ha
          go_wp2_with fail
          have hn4 : go + d = D := HM.out
          have hrow := HRA.out
          rw [Shf0.pre_disk] at hrow
          go_roundg (go - 1)
          case measure => omega
          case rel => exact ⟨d + 1, by omega, by go_num, hrow, HFA.out⟩
    · have hdn : d = D := by have := HM.out; omega
      subst hdn
      clear hd
      go_wp2_with fail
      go_ret
      have hp : Shf0.places c = Shf0.preP c d 0 0 := by rw [← Shf0.pre_all, HD.out]; rfl
      have h1 := HF.out.size
      refine ⟨_, rfl, ?_, HF.out.trans HFR.out⟩
      rw [hp]
      obtain ⟨a1, a2 | ⟨g, cap, cur, a2, a3, a4⟩⟩ := HR.out
      · exact ⟨a1, .inl a2⟩
      · exact ⟨a1, .inr ⟨g, cap, cur, a2, Nat.le_trans h1 a3, a4⟩⟩
end Go.Proofs.Ytmbkmfpnjpkakaa
