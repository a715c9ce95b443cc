/- The program's shelf: sizes, sectors, number. -/
import Derived.Test.YtmbkmfpnjpkakaaS3
namespace Go.Proofs.Ytmbkmfpnjpkakaa
open Go.RowKit Go.Im Go.Dsk0

theorem zero155 (w : World) : (zeroValue 155).run Try.prog w = .ok (.agg #[.int .i64 0, .int .i64 0, .int .i64 0, .int .i64 0]) w := by kernel_rfl
theorem info155 : (Try.prog.info? 155).map (·.size) = some 4 := by kernel_rfl
def sizA (c : Shf0.Cfg) : Array Value := #[.int .i64 c.log, .int .i64 c.image, .int .i64 c.image, .int .i64 c.rows]
def sizV (c : Shf0.Cfg) : Value := .agg #[.int .i64 c.log, .int .i64 c.image, .int .i64 c.image, .int .i64 c.rows]
theorem sizA_one (c : Shf0.Cfg) : (sizA c).all (·.oneCell') = true := by simp [sizA, Value.oneCell']
theorem sizA_cells {w : World} {b : Nat} {c : Shf0.Cfg} {t : TypeId} {fr : Nat × Nat} (h : w.heap[b]? = some (.cells (sizA c) t fr)) : w.cell? ⟨b, 0, none⟩ = some (.int .i64 c.log) ∧ w.cell? ⟨b, 1, none⟩ = some (.int .i64 c.image) ∧ w.cell? ⟨b, 2, none⟩ = some (.int .i64 c.image) ∧ w.cell? ⟨b, 3, none⟩ = some (.int .i64 c.rows) :=
  ⟨cell_of_blk h, cell_of_blk h, cell_of_blk h, cell_of_blk h⟩

theorem sizes_calls (c : Shf0.Cfg) (w : World) : Calls Try.prog 98 #[cfgV c] w fun e w' => e = .returned (sizV c) ∧ Fr (fun _ => False) w w' := by
  obtain ⟨n0, n1, n2, n3, n4, n5⟩ := c
  unfold cfgV
  go_enter Try.func98, Try.ntmps98
  go_wp2_with (first
    | (refine im_box rfl 23 _ rfl rfl ?_; intro w1 b1 f1 z1; have Z1 := Lib.hid z1; clear z1; obtain ⟨p0, p1, p2, p3, p4, p5⟩ := cfgA_cells (c := ⟨n0, n1, n2, n3, n4, n5⟩) b1; have hl1 := lt_of_blk b1; clear b1)
    | (refine im_alloc_row rfl 155 rfl (zero155 _) ?_; intro w2 b2 f2 z2; have B2 := Lib.hid b2; clear b2; have Z2 := Lib.hid z2; clear z2; have d2 := (f2.cb hl1 (fun h => h)).trans p2; have d4 := (f2.cb hl1 (fun h => h)).trans p4; have d5 := (f2.cb hl1 (fun h => h)).trans p5)
    | (refine im_store_row rfl 155 _ _ rfl (vs := sizA ⟨n0, n1, n2, n3, n4, n5⟩) rfl rfl B2.out rfl info155 (sizA_one _) ?_; intro w3 b3 f3 z3; obtain ⟨q0, q1, q2, q3⟩ := sizA_cells b3; clear b3; have Z3 := Lib.hid z3; clear z3))
  have z1 := Z1.out
  have z2 := Z2.out
  refine bodyPost_ret (v := sizV ⟨n0, n1, n2, n3, n4, n5⟩) (by simp [results, Try.results98, go_sem, q0, q1, q2, q3, sizV]) rfl ⟨rfl, ?_⟩
  exact (f1.trans f2).trans' f3 (fun _ _ h => h) (fun i hi h => by omega)

/-- Bounds of a valid configuration. -/
theorem valid_bd {c : Shf0.Cfg} (h : Shf0.valid c) : 1 ≤ c.disks ∧ c.disks ≤ 64 ∧ 1 ≤ c.rows ∧ c.rows ≤ 4096 ∧ 1 ≤ c.log ∧ c.log ≤ 65536 ∧ 1 ≤ c.image ∧ c.image ≤ 65536 :=
  ⟨h.1.1, h.1.2, h.2.2.1.1, h.2.2.1.2, h.2.2.2.2.1.1, h.2.2.2.2.1.2, h.2.2.2.2.2.1.1, h.2.2.2.2.2.1.2⟩

set_option maxHeartbeats 1000000 in
theorem sectors_calls (c : Shf0.Cfg) (w : World) (hv : Shf0.valid c) : Calls Try.prog 61 #[cfgV c] w fun e w' => e = .returned (.int .i64 (Shf0.sectors c)) ∧ Fr (fun _ => False) w w' := by
  obtain ⟨-, -, h3, h4, h5, h6, h7, h8⟩ := valid_bd hv
  have hs : Shf0.sectors c = c.log + c.image + c.image + c.rows := rfl
  rw [hs]
  clear hs hv
  obtain ⟨n0, n1, n2, n3, n4, n5⟩ := c
  simp only at h3 h4 h5 h6 h7 h8 ⊢
  have hsz : ∀ W, Calls Try.prog 98 #[.agg #[.int .i64 n0, .int .i64 n1, .int .i64 n2, .int .i64 n3, .int .i64 n4, .int .i64 n5]] W fun e w' => e = .returned (.agg #[.int .i64 n4, .int .i64 n5, .int .i64 n5, .int .i64 n2]) ∧ Fr (fun _ => False) W w' := fun W => sizes_calls ⟨n0, n1, n2, n3, n4, n5⟩ W
  have HS := Lib.hid hsz; clear hsz
  unfold cfgV
  simp only
  go_enter Try.func61, Try.ntmps61
  go_wp2_with (first
    | (refine im_box rfl 23 _ rfl rfl ?_; intro w1 b1 f1 z1; have Z1 := Lib.hid z1; clear z1; obtain ⟨p0, p1, p2, p3, p4, p5⟩ := cfgA_cells (c := ⟨n0, n1, n2, n3, n4, n5⟩) b1; have hl1 := lt_of_blk b1; clear b1))
  refine (HS.out _).mono ?_; rintro e w2 ⟨rfl, f2⟩
  go_wp2_with fail
  have i0 : ∀ w, (Instr.index 155 (.agg #[.int .i64 n4, .int .i64 n5, .int .i64 n5, .int .i64 n2]) (.int .i64 0)).run Try.prog w = .ok (.int .i64 n4) w := fun _ => by kernel_rfl
  have i1 : ∀ w, (Instr.index 155 (.agg #[.int .i64 n4, .int .i64 n5, .int .i64 n5, .int .i64 n2]) (.int .i64 1)).run Try.prog w = .ok (.int .i64 n5) w := fun _ => by kernel_rfl
  have i2 : ∀ w, (Instr.index 155 (.agg #[.int .i64 n4, .int .i64 n5, .int .i64 n5, .int .i64 n2]) (.int .i64 2)).run Try.prog w = .ok (.int .i64 n5) w := fun _ => by kernel_rfl
  have i3 : ∀ w, (Instr.index 155 (.agg #[.int .i64 n4, .int .i64 n5, .int .i64 n5, .int .i64 n2]) (.int .i64 3)).run Try.prog w = .ok (.int .i64 n2) w := fun _ => by kernel_rfl
  have ff := f1.trans f2
  go_loopg [3, 8] 4 (fun m t k wr => w2 = wr ∧ ((m = 4 ∧ k = .int .i64 0 ∧ t = .int .i64 0) ∨ (m = 3 ∧ k = .int .i64 1 ∧ t = .int .i64 n4) ∨ (m = 2 ∧ k = .int .i64 2 ∧ t = .int .i64 (n4 + n5)) ∨ (m = 1 ∧ k = .int .i64 3 ∧ t = .int .i64 (n4 + n5 + n5)) ∨ (m = 0 ∧ k = .int .i64 4 ∧ t = .int .i64 (n4 + n5 + n5 + n2))))
  case atStart => exact ⟨rfl, .inl ⟨rfl, rfl, rfl⟩⟩
  case round =>
    obtain ⟨rfl, ⟨rfl, rfl, rfl⟩ | ⟨rfl, rfl, rfl⟩ | ⟨rfl, rfl, rfl⟩ | ⟨rfl, rfl, rfl⟩ | ⟨rfl, rfl, rfl⟩⟩ := hrel
    · go_wp2_with fail
      go_roundg 3
      case measure => omega
      case rel => exact ⟨rfl, .inr (.inl ⟨rfl, rfl, rfl⟩)⟩
    · go_wp2_with fail
      go_roundg 2
      case measure => omega
      case rel => exact ⟨rfl, .inr (.inr (.inl ⟨rfl, rfl, rfl⟩))⟩
    · go_wp2_with fail
      go_roundg 1
      case measure => omega
      case rel => exact ⟨rfl, .inr (.inr (.inr (.inl ⟨rfl, rfl, rfl⟩)))⟩
    · go_wp2_with fail
      go_roundg 0
      case measure => omega
      case rel => exact ⟨rfl, .inr (.inr (.inr (.inr ⟨rfl, rfl, rfl⟩)))⟩
    · go_wp2_with fail
      go_ret
      exact ⟨rfl, ff⟩
end Go.Proofs.Ytmbkmfpnjpkakaa
