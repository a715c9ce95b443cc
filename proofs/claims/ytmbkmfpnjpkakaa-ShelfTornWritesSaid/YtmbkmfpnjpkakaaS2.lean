/- The program's shelf: State, Up, Config, Fuse, access. -/
import Derived.Test.YtmbkmfpnjpkakaaS1
namespace Go.Proofs.Ytmbkmfpnjpkakaa
open Go.RowKit Go.Im Go.Dsk0

section
variable {w : World} {O : Nat → Prop} {s : Nat} {S : Shf0.Shelf}

theorem state_calls (h : ShelfAt w O s S) (d : Int) : Calls Try.prog 46 #[.pointer (some ⟨s, 0, none⟩), .int .i64 d] w fun e w' => e = .returned (.int .i64 (Shf0.state S d)) ∧ w = w' := by
  obtain ⟨bs, im, bv, iv, h⟩ := h
  obtain ⟨hp1, hp2, hp3⟩ := h.pos
  obtain ⟨vb, cap, cur, rfl, hvb, hcz, -, hcell⟩ := h.open_
  have c6 : w.cell? ⟨s, 6, none⟩ = some (.slice (some ⟨vb, 0, none⟩) bs.length cap) := cell_of_blk h.head
  have hst : Shf0.state S d = if 0 ≤ d ∧ d < bs.length then ((bs[d.toNat]?).map (·.2.st)).getD 0 else 0 := by
    unfold Shf0.state
    rw [hp3, h.eb]
    simp [List.getElem?_map, Function.comp_def]
  have HST := Lib.hid hst; clear hst
  have HC := Lib.hid hcell; clear hcell
  clear h hvb hp3
  by_cases h0 : 0 ≤ d
  · by_cases h1 : d < bs.length
    · obtain ⟨k, rfl⟩ : ∃ k : Nat, d = k := ⟨d.toNat, by omega⟩
      obtain ⟨x, hx⟩ : ∃ x, bs[k]? = some x := ⟨_, List.getElem?_eq_getElem (by omega)⟩
      have c7 := (HC.out k x hx).2
      have he : Shf0.state S k = x.2.st := by rw [HST.out, if_pos ⟨h0, h1⟩, Int.toNat_natCast, hx]; rfl
      have HE := Lib.hid he; clear he hx
      go_enter Try.func46, Try.ntmps46
      go_wp2_with fail
      go_ret
      exact ⟨by rw [HE.out]; rfl, rfl⟩
    · have he : Shf0.state S d = 0 := by rw [HST.out, if_neg (by omega)]
      have HE := Lib.hid he; clear he
      go_enter Try.func46, Try.ntmps46
      go_wp2_with fail
      go_ret
      exact ⟨by rw [HE.out]; rfl, rfl⟩
  · have he : Shf0.state S d = 0 := by rw [HST.out, if_neg (by omega)]
    have HE := Lib.hid he; clear he
    go_enter Try.func46, Try.ntmps46
    go_wp2_with fail
    go_ret
    exact ⟨by rw [HE.out]; rfl, rfl⟩

theorem up_calls (h : ShelfAt w O s S) : Calls Try.prog 50 #[.pointer (some ⟨s, 0, none⟩)] w fun e w' => e = .returned (.bool (!S.off)) ∧ w = w' := by
  obtain ⟨bs, im, bv, iv, h⟩ := h
  have c8 : w.cell? ⟨s, 8, none⟩ = some (.bool S.off) := cell_of_blk h.head
  clear h
  go_enter Try.func50, Try.ntmps50
  go_wp2_with fail
  go_ret
  exact ⟨rfl, rfl⟩

theorem zero23 (w : World) : (zeroValue 23).run Try.prog w = .ok (.agg #[.int .i64 0, .int .i64 0, .int .i64 0, .int .i64 0, .int .i64 0, .int .i64 0]) w := by kernel_rfl
theorem info23 : (Try.prog.info? 23).map (·.size) = some 6 := by kernel_rfl
theorem info23' : (Try.prog.info? 23).map (fun i => (i.zero, i.size, i.bytes)) = some (some (.agg #[.int .i64 0, .int .i64 0, .int .i64 0, .int .i64 0, .int .i64 0, .int .i64 0]), 6, 48) := by kernel_rfl
def cfgA (c : Shf0.Cfg) : Array Value := #[.int .i64 c.disks, .int .i64 c.racks, .int .i64 c.rows, .int .i64 c.spare, .int .i64 c.log, .int .i64 c.image]
theorem cfgA_one (c : Shf0.Cfg) : (cfgA c).all (·.oneCell') = true := by simp [cfgA, Value.oneCell']
theorem cfgA_cells {w : World} {b : Nat} {c : Shf0.Cfg} (h : w.heap[b]? = some (.cells (cfgA c) 23 (0, 0))) : w.cell? ⟨b, 0, none⟩ = some (.int .i64 c.disks) ∧ w.cell? ⟨b, 1, none⟩ = some (.int .i64 c.racks) ∧ w.cell? ⟨b, 2, none⟩ = some (.int .i64 c.rows) ∧ w.cell? ⟨b, 3, none⟩ = some (.int .i64 c.spare) ∧ w.cell? ⟨b, 4, none⟩ = some (.int .i64 c.log) ∧ w.cell? ⟨b, 5, none⟩ = some (.int .i64 c.image) :=
  ⟨cell_of_blk h, cell_of_blk h, cell_of_blk h, cell_of_blk h, cell_of_blk h, cell_of_blk h⟩
theorem config_calls (h : ShelfAt w O s S) : Calls Try.prog 68 #[.pointer (some ⟨s, 0, none⟩)] w fun e w' => e = .returned (cfgV S.cfg) ∧ Fr (fun _ => False) w w' := by
  obtain ⟨bs, im, bv, iv, h⟩ := h
  have c0 : w.cell? ⟨s, 0, none⟩ = some (.int .i64 S.cfg.disks) := cell_of_blk h.head
  have c1 : w.cell? ⟨s, 1, none⟩ = some (.int .i64 S.cfg.racks) := cell_of_blk h.head
  have c2 : w.cell? ⟨s, 2, none⟩ = some (.int .i64 S.cfg.rows) := cell_of_blk h.head
  have c3 : w.cell? ⟨s, 3, none⟩ = some (.int .i64 S.cfg.spare) := cell_of_blk h.head
  have c4 : w.cell? ⟨s, 4, none⟩ = some (.int .i64 S.cfg.log) := cell_of_blk h.head
  have c5 : w.cell? ⟨s, 5, none⟩ = some (.int .i64 S.cfg.image) := cell_of_blk h.head
  have hs := lt_of_blk h.head
  clear h
  go_enter Try.func68, Try.ntmps68
  go_wp2_with (first
    | (refine im_alloc_row rfl 23 rfl (zero23 _) ?_; intro w2 b2 f2 z2; have B2 := Lib.hid b2; clear b2; have Z2 := Lib.hid z2; clear z2; have d0 := (f2.cb hs (fun h => h)).trans c0; have d1 := (f2.cb hs (fun h => h)).trans c1; have d2 := (f2.cb hs (fun h => h)).trans c2; have d3 := (f2.cb hs (fun h => h)).trans c3; have d4 := (f2.cb hs (fun h => h)).trans c4; have d5 := (f2.cb hs (fun h => h)).trans c5)
    | (refine im_store_row rfl 23 _ _ rfl (vs := cfgA S.cfg) rfl rfl B2.out rfl info23 (cfgA_one _) ?_; intro w3 b3 f3 z3; obtain ⟨q0, q1, q2, q3, q4, q5⟩ := cfgA_cells b3; clear b3; have Z3 := Lib.hid z3; clear z3))
  refine bodyPost_ret (v := cfgV S.cfg) (by simp [results, Try.results68, go_sem, q0, q1, q2, q3, q4, q5, cfgV]) rfl ⟨rfl, ?_⟩
  exact f2.trans' f3 (fun _ _ h => h) (fun i hi h => by omega)

/-- The step below which access stands. -/
theorem access_calls (h : ShelfAt w O s S) (d : Int) (h0 : 0 ≤ d) (h1 : d < S.bays.length) : Calls Try.prog 94 #[.pointer (some ⟨s, 0, none⟩), .int .i64 d] w fun e w' => e = .returned (.int .i64 (Shf0.access S d)) ∧ w = w' := by
  obtain ⟨bs, im, bv, iv, h⟩ := h
  obtain ⟨hp1, hp2, hp3⟩ := h.pos
  obtain ⟨vb, cap, cur, rfl, hvb, hcz, -, hcell⟩ := h.open_
  have c6 : w.cell? ⟨s, 6, none⟩ = some (.slice (some ⟨vb, 0, none⟩) bs.length cap) := cell_of_blk h.head
  have c8 : w.cell? ⟨s, 8, none⟩ = some (.bool S.off) := cell_of_blk h.head
  obtain ⟨k, rfl⟩ : ∃ k : Nat, d = k := ⟨d.toNat, by omega⟩
  have hk : k < bs.length := by omega
  obtain ⟨x, hx⟩ : ∃ x, bs[k]? = some x := ⟨_, List.getElem?_eq_getElem hk⟩
  have c7 := (hcell k x hx).2
  have he : Shf0.state S k = x.2.st := by
    unfold Shf0.state
    rw [if_pos ⟨by omega, by omega⟩, h.eb, Int.toNat_natCast, List.getElem?_map, hx]; rfl
  have ha : Shf0.access S k = if S.off = true then 14 else if x.2.st ≠ 1 then 15 else 0 := by unfold Shf0.access; rw [he]
  have HA := Lib.hid ha; clear ha he hx hcell
  clear h hp3
  cases hoff : S.off with
  | true =>
    rw [hoff] at c8 HA
    have hz : Shf0.access S k = 14 := HA.out
    have HZ := Lib.hid hz; clear hz
    go_enter Try.func94, Try.ntmps94
    go_wp2_with fail
    go_ret
    exact ⟨by rw [HZ.out]; rfl, rfl⟩
  | false =>
    rw [hoff] at c8 HA
    obtain ⟨t, ht⟩ : ∃ t, t = x.2.st := ⟨_, rfl⟩
    rw [← ht] at c7 HA
    clear ht
    by_cases h15 : t = 1
    · subst h15
      have hz : Shf0.access S k = 0 := HA.out
      have HZ := Lib.hid hz; clear hz
      go_enter Try.func94, Try.ntmps94
      go_wp2_with fail
      go_ret
      exact ⟨by rw [HZ.out]; rfl, rfl⟩
    · have hz : Shf0.access S k = 15 := by rw [HA.out, if_neg (by simp), if_pos h15]
      have HZ := Lib.hid hz; clear hz
      have hne : (t != 1) = true := by simp [h15]
      clear h15
      go_enter Try.func94, Try.ntmps94
      go_wp2_with fail
      go_ret
      exact ⟨by rw [HZ.out]; rfl, rfl⟩

end
end Go.Proofs.Ytmbkmfpnjpkakaa
