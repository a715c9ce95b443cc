/- The program's shelf: New. -/
import Derived.Test.YtmbkmfpnjpkakaaS15
namespace Go.Im
open Go
/-- One element of several cells appended to a row that the call has made: which block may have turned. -/
theorem wp_append_el {P : Program} {Q : Exit → Act → World → Prop} {o : Oper} {a : Act} {w : World} {K : Act → World → Prop} (s x : Operand) (t : TypeId) (hop : o.op = .call { callee := .builtin .append, args := #[s, x], argTypes := #[t, t] })
    (base : Nat) {e : TypeId} {i : TypeInfo} {z : Value} {size bytes : Nat} (ht : P.underlying t = some (.slice e)) (hi : P.info? e = some i) (hz : i.zero = some z)
    (hsize : i.size = size) (hby : i.bytes = bytes) (hzs : z.cells.size = size) (hsz : 0 < size)
    {v : Value} {n : Nat} {xs : List Value} (hs : a.eval s = v) (hown : w.ownsRow base e size v n xs)
    {b c : Nat} {cs : Array Value} {te : TypeId} (hx : a.eval x = .slice (some ⟨b, 0, none⟩) 1 c) (hb : w.heap[b]? = some (.cells cs te (0, 0))) (hl : cs.size = size) (h1 : ∀ u ∈ cs.toList, u.oneCell' = true)
    (h63 : n + 1 ≤ maxLen) (hbytes : (n + 1) * bytes ≤ 140737488355328) (hbase : base ≤ w.heap.size)
    (h : ∀ v' w', w'.ownsRow base e size v' (n + 1) (xs ++ cs.toList) → w.grownBy w' v.ownBlock → K (a.put o.dst v') w') : o.wp P a w K Q :=
  wp_append_own w s x t hop base e i z size bytes ht hi hz hsize hby hzs hsz v n xs hs hown ⟨b, 0, none⟩ 1 c cs.toList hx (by simp [hl]) (fun j u hj => by
    have e1 : (⟨b, 0, none⟩ : Addr).add j = ⟨b, j, none⟩ := by simp [Addr.add]; omega
    rw [e1, cell_of_blk hb]; simpa using hj) h1 h63 hbytes hbase fun v' w' h2 h3 _ => h v' w' h2 h3
end Go.Im
namespace Go.Proofs.Ytmbkmfpnjpkakaa
open Go.RowKit Go.Im Go.Dsk0

theorem info106' : (Try.prog.info? 106).map (fun i => (i.zero, i.size, i.bytes)) = some (some (.agg #[.pointer none, .int .i64 0]), 2, 16) := by kernel_rfl
theorem mt101 : Try.prog.underlying 101 = some (.slice 106) := by kernel_rfl

set_option maxRecDepth 100000 in
theorem snew_bad (c : Shf0.Cfg) (w : World) (hv : ¬ Shf0.valid c) : Calls Try.prog 17 #[cfgV c] w fun e w' => e = .returned (.tuple #[.pointer none, .int .i64 1]) ∧ Fr (fun _ => False) w w' := by
  have hck := fun W => check_calls c W
  rw [if_neg hv] at hck
  obtain ⟨n0, n1, n2, n3, n4, n5⟩ := c
  have HCK := Lib.hid hck
  clear hck hv
  unfold cfgV at HCK ⊢
  simp only at HCK ⊢
  go_enter Try.func17, Try.ntmps17
  go_wp2_with (first
    | (refine im_box rfl 23 _ rfl rfl ?_; intro w1 b1 f1 z1; have Z1 := Lib.hid z1; clear z1; obtain ⟨p0, p1, p2, p3, p4, p5⟩ := cfgA_cells (c := ⟨n0, n1, n2, n3, n4, n5⟩) b1; have hl1 := lt_of_blk b1; clear b1))
  refine (HCK.out _).mono ?_; rintro e w2 ⟨rfl, f2⟩
  go_wp2_with fail
  go_ret2
  exact ⟨rfl, f1.trans f2⟩

set_option maxRecDepth 100000 in
theorem snew_big (c : Shf0.Cfg) (w : World) (hv : Shf0.valid c) (hs : 65536 < Shf0.sectors c) : Calls Try.prog 17 #[cfgV c] w fun e w' => e = .returned (.tuple #[.pointer none, .int .i64 2]) ∧ Fr (fun _ => False) w w' := by
  have hck := fun W => check_calls c W
  rw [if_pos hv] at hck
  have hsc := fun W => sectors_calls c W hv
  obtain ⟨n, hn⟩ : ∃ n, n = Shf0.sectors c := ⟨_, rfl⟩
  rw [← hn] at hsc hs
  clear hn
  obtain ⟨n0, n1, n2, n3, n4, n5⟩ := c
  have HCK := Lib.hid hck
  have HSC := Lib.hid hsc
  clear hck hv hsc
  unfold cfgV at HCK HSC ⊢
  simp only at HCK HSC ⊢
  go_enter Try.func17, Try.ntmps17
  go_wp2_with (first
    | (refine im_box rfl 23 _ rfl rfl ?_; intro w1 b1 f1 z1; have Z1 := Lib.hid z1; clear z1; obtain ⟨p0, p1, p2, p3, p4, p5⟩ := cfgA_cells (c := ⟨n0, n1, n2, n3, n4, n5⟩) b1; have hl1 := lt_of_blk b1; clear b1))
  refine (HCK.out _).mono ?_; rintro e w2 ⟨rfl, f2⟩
  have q0 := (f2.cb hl1 (fun h => h)).trans p0
  have q1 := (f2.cb hl1 (fun h => h)).trans p1
  have q2 := (f2.cb hl1 (fun h => h)).trans p2
  have q3 := (f2.cb hl1 (fun h => h)).trans p3
  have q4 := (f2.cb hl1 (fun h => h)).trans p4
  have q5 := (f2.cb hl1 (fun h => h)).trans p5
  clear p0 p1 p2 p3 p4 p5
  go_wp2_with fail
  refine (HSC.out _).mono ?_; rintro e w3 ⟨rfl, f3⟩
  go_wp2_with fail
  go_ret2
  exact ⟨rfl, (f1.trans f2).trans f3⟩

theorem row_keep' {w w' : World} {base : Nat} {e : TypeId} {size : Nat} {v : Value} {n : Nat} {xs : List Value} (h : w.ownsRow base e size v n xs) (f : Fr (fun _ => False) w w') : w'.ownsRow base e size v n xs := row_fr h f (fun _ _ _ h => h)
theorem own_not {w : World} {base : Nat} {e : TypeId} {size : Nat} {v : Value} {n : Nat} {xs : List Value} (h : w.ownsRow base e size v n xs) {b : Nat} {cs : Array Value} {t : TypeId} {fr : Nat × Nat} (hb : w.heap[b]? = some (.cells cs t fr)) (ht : t ≠ e) : ¬ some b = v.ownBlock := fun he => by
  obtain ⟨-, h2 | ⟨g, cap, cur, h2, -, h4, -⟩⟩ := h
  · rw [h2.1] at he; cases he
  · rw [h2] at he; injection he with he; subst he; exact ht (cells_type hb h4)
theorem own_disk {w : World} {base : Nat} {e : TypeId} {size : Nat} {v : Value} {n : Nat} {xs : List Value} (h : w.ownsRow base e size v n xs) {L : Loc} {D : Dsk} (hd : DK w L D) (h1 : e ≠ 126) (h2 : e ≠ 119) : ∀ q, L.has q → ¬ some q = v.ownBlock := fun q hq he => by
  obtain ⟨-, a2 | ⟨g, cap, cur, a2, -, a4, -⟩⟩ := h
  · rw [a2.1] at he; cases he
  · rw [a2] at he; injection he with he; subst he; exact hd.not a4 h1 h2 hq
theorem fr_below' {w w' : World} (h : Fr (fun q => w.heap.size ≤ q) w w') : Fr (fun _ => False) w w' := h.mono fun q hq h => by omega
/-- What New leaves. -/
def SNew (c : Shf0.Cfg) (w : World) (e : Ending) (w' : World) : Prop := ∃ s : Nat, e = .returned (.tuple #[.pointer (some ⟨s, 0, none⟩), .int .i64 0]) ∧ ShelfAt w' (fun q => w.heap.size ≤ q ∧ q < w'.heap.size) s (Shf0.newS c) ∧ Fr (fun _ => False) w w'

/-- The parts of a shelf that is being made. -/
structure Making (w0 : World) (c : Shf0.Cfg) (s : Nat) (k : Nat) (bs : List (Loc × Shf0.Bay)) (bv : Value) (w : World) : Prop where
  head : w.heap[s]? = some (.cells #[.int .i64 c.disks, .int .i64 c.racks, .int .i64 c.rows, .int .i64 c.spare, .int .i64 c.log, .int .i64 c.image, bv, .slice none 0 0, .bool false, .bool false, .int .i64 0] 104 (0, 0))
  row : w.ownsRow w0.heap.size 106 2 bv k (bs.flatMap bayC)
  len : bs.length = k
  each : ∀ x ∈ bs, x.2 = ⟨new (Shf0.sectors c), 1⟩ ∧ DK w x.1 x.2.D ∧ ∀ q, x.1.has q → w0.heap.size ≤ q
  apart : (bs.map (·.1)).Pairwise Apart
  fr : Fr (fun q => w0.heap.size ≤ q) w0 w
  ge : w0.heap.size ≤ s

theorem Making.done {w0 w : World} {c : Shf0.Cfg} {s k : Nat} {bs : List (Loc × Shf0.Bay)} {bv : Value} (h : Making w0 c s k bs bv w) (hv : Shf0.valid c) (hs : Shf0.sectors c ≤ 65536) (hk : k = c.disks.toNat) : ShelfAt w (fun q => w0.heap.size ≤ q ∧ q < w.heap.size) s (Shf0.newS c) := by
  obtain ⟨-, -, h3, h4, h5, h6, h7, h8⟩ := valid_bd hv
  have hsp : 0 ≤ Shf0.sectors c := by unfold Shf0.sectors; omega
  have hnl : ((new (Shf0.sectors c)).length : Int) = Shf0.sectors c := by rw [new_length]; omega
  have eb : (Shf0.newS c).bays = bs.map (·.2) := by
    show List.replicate _ _ = _
    symm
    rw [List.eq_replicate_iff]
    refine ⟨by rw [List.length_map, h.len, hk], fun b hb => ?_⟩
    obtain ⟨x, hx, rfl⟩ := List.mem_map.1 hb
    exact (h.each x hx).1
  have hall : ∀ b ∈ (Shf0.newS c).bays, b = ⟨new (Shf0.sectors c), 1⟩ := fun b hb => (List.mem_replicate.1 hb).2
  refine ⟨bs, [], bv, .slice none 0 0, ⟨hv, hs, by simp [Shf0.newS], fun b hb => by rw [hall b hb]; exact Dsk0.Ok.new _, fun b hb _ => by rw [hall b hb]; exact hnl, fun b hb => .inl (by rw [hall b hb]), fun D hD => by cases hD⟩, eb, rfl, h.head, ?_, World.ownsRow_nil _ _ _ _, fun x hx => (h.each x hx).2.1, fun x hx => (by cases hx), by simpa using h.apart, ⟨h.ge, lt_of_blk h.head⟩, fun q hq => ?_, fun q hq => (by cases hq), fun L hL q hq => ?_, fun q hq => hq.2⟩
  · rw [h.len]
    obtain ⟨a1, a2 | ⟨g, cap, cur, a2, a3, a4⟩⟩ := h.row
    · exact ⟨a1, .inl a2⟩
    · exact ⟨a1, .inr ⟨g, cap, cur, a2, Nat.zero_le _, a4⟩⟩
  · obtain ⟨a1, a2 | ⟨g, cap, cur, a2, a3, a4, -⟩⟩ := h.row
    · rw [a2.1] at hq; cases hq
    · rw [a2] at hq; injection hq with hq; subst hq; exact ⟨a3, lt_of_blk a4⟩
  · simp only [List.map_nil, List.append_nil, List.mem_map] at hL
    obtain ⟨x, hx, rfl⟩ := hL
    exact ⟨(h.each x hx).2.2 q hq, (h.each x hx).2.1.lthas hq⟩

set_option maxRecDepth 100000 in
set_option maxHeartbeats 2000000 in
theorem snew_ok (c : Shf0.Cfg) (w : World) (hv : Shf0.valid c) (hs : Shf0.sectors c ≤ 65536) : Calls Try.prog 17 #[cfgV c] w fun e w' => SNew c w e w' := by
  obtain ⟨d1, d2, -⟩ := valid_bd hv
  have hck := fun W => check_calls c W
  rw [if_pos hv] at hck
  have hsc := fun W => sectors_calls c W hv
  obtain ⟨n, hn⟩ : ∃ n, n = Shf0.sectors c := ⟨_, rfl⟩
  have hsn : ¬ 65536 < n := by omega
  rw [← hn] at hsc
  have HN := Lib.hid hn; clear hn
  obtain ⟨N, hN⟩ : ∃ N : Nat, c.disks = (N : Int) := ⟨c.disks.toNat, by omega⟩
  have hN64 : N ≤ 64 := by omega
  have HV := Lib.hid hv
  have HS := Lib.hid hs
  have HC := Lib.hid (show c = ⟨N, c.racks, c.rows, c.spare, c.log, c.image⟩ from by rw [← hN])
  have HCK := Lib.hid hck
  have HSC := Lib.hid hsc
  clear hck hv hsc hs
  obtain ⟨i0, hi, hy0, hy1, hy2⟩ := info_parts info106'
  obtain ⟨n1, hn1⟩ : ∃ x, x = c.racks := ⟨_, rfl⟩
  obtain ⟨n2, hn2⟩ : ∃ x, x = c.rows := ⟨_, rfl⟩
  obtain ⟨n3, hn3⟩ : ∃ x, x = c.spare := ⟨_, rfl⟩
  obtain ⟨n4, hn4⟩ : ∃ x, x = c.log := ⟨_, rfl⟩
  obtain ⟨n5, hn5⟩ : ∃ x, x = c.image := ⟨_, rfl⟩
  have hcv : cfgV c = .agg #[.int .i64 N, .int .i64 n1, .int .i64 n2, .int .i64 n3, .int .i64 n4, .int .i64 n5] := by unfold cfgV; rw [hN, hn1, hn2, hn3, hn4, hn5]
  rw [hcv] at HCK HSC ⊢
  have hmk0 : ∀ (W : World) (s : Nat), w.heap.size ≤ s → Fr (fun _ => False) w W → W.heap[s]? = some (.cells #[.int .i64 N, .int .i64 n1, .int .i64 n2, .int .i64 n3, .int .i64 n4, .int .i64 n5, .slice none 0 0, .slice none 0 0, .bool false, .bool false, .int .i64 0] 104 (0, 0)) → Making w c s 0 [] (.slice none 0 0) W := fun W s h1 h2 h3 =>
    ⟨by rw [hN, ← hn1, ← hn2, ← hn3, ← hn4, ← hn5]; exact h3, World.ownsRow_nil _ _ _ _, rfl, (fun x hx => nomatch hx), List.Pairwise.nil, h2.no, h1⟩
  have HMK0 := Lib.hid hmk0
  have HCE := Lib.hid (And.intro hN (And.intro hn1 (And.intro hn2 (And.intro hn3 (And.intro hn4 hn5)))))
  clear hcv hn1 hn2 hn3 hn4 hn5 hmk0 hN d1 d2
  go_enter Try.func17, Try.ntmps17
  go_wp2_with (first
    | (refine im_box rfl 23 _ rfl rfl ?_; intro w1 b1 f1 z1; have Z1 := Lib.hid z1; clear z1; obtain ⟨p0, p1, p2, p3, p4, p5⟩ := cfgA_cells (c := ⟨N, n1, n2, n3, n4, n5⟩) b1; have hl1 := lt_of_blk b1; have HCB1 := Lib.hid b1; clear b1))
  refine (HCK.out _).mono ?_; rintro e w2 ⟨rfl, f2⟩
  have q0 := (f2.cb hl1 (fun h => h)).trans p0
  have q1 := (f2.cb hl1 (fun h => h)).trans p1
  have q2 := (f2.cb hl1 (fun h => h)).trans p2
  have q3 := (f2.cb hl1 (fun h => h)).trans p3
  have q4 := (f2.cb hl1 (fun h => h)).trans p4
  have q5 := (f2.cb hl1 (fun h => h)).trans p5
  have hl2 := Nat.lt_of_lt_of_le hl1 f2.size
  clear p0 p1 p2 p3 p4 p5
  go_wp2_with fail
  refine (HSC.out _).mono ?_; rintro e w3 ⟨rfl, f3⟩
  have r0 := (f3.cb hl2 (fun h => h)).trans q0
  have r1 := (f3.cb hl2 (fun h => h)).trans q1
  have r2 := (f3.cb hl2 (fun h => h)).trans q2
  have r3 := (f3.cb hl2 (fun h => h)).trans q3
  have r4 := (f3.cb hl2 (fun h => h)).trans q4
  have r5 := (f3.cb hl2 (fun h => h)).trans q5
  have hl3 := Nat.lt_of_lt_of_le hl2 f3.size
  clear q0 q1 q2 q3 q4 q5
  go_wp2_with (first
    | (refine im_box rfl 104 _ rfl (v := .agg #[.int .i64 N, .int .i64 n1, .int .i64 n2, .int .i64 n3, .int .i64 n4, .int .i64 n5, .slice none 0 0, .slice none 0 0, .bool false, .bool false, .int .i64 0]) rfl ?_; intro w4 b4 f4 z4; have B4 := Lib.hid b4; clear b4; have Z4 := Lib.hid z4; clear z4; have t0 := (f4.cb hl3 (fun h => h)).trans r0; have t1 := (f4.cb hl3 (fun h => h)).trans r1; have t2 := (f4.cb hl3 (fun h => h)).trans r2; have t3 := (f4.cb hl3 (fun h => h)).trans r3; have t4 := (f4.cb hl3 (fun h => h)).trans r4; have t5 := (f4.cb hl3 (fun h => h)).trans r5; have hl4 := Nat.lt_of_lt_of_le hl3 f4.size))
  have hz4 := Z4.out
  have hz3 := f3.size
  have hz2 := f2.size
  have hz1 := Z1.out
  have ff4 := (((f1.trans f2).trans f3).trans f4)
  have HCB := Lib.hid ((f4.block _ hl3 (fun h => h)).trans ((f3.block _ hl2 (fun h => h)).trans ((f2.block _ hl1 (fun h => h)).trans HCB1.out)))
  clear HCB1
  have HMK := Lib.hid (HMK0.out w4 w3.heap.size (by omega) ff4 B4.out)
  obtain ⟨sb, hsb⟩ : ∃ sb, sb = w3.heap.size := ⟨_, rfl⟩
  rw [← hsb] at HMK ⊢
  have hsb1 : w.heap.size + 1 ≤ sb := by omega
  clear B4 Z4 hsb f1 f2 f3 f4 ff4 HMK0 r0 r1 r2 r3 r4 r5
  go_loopg [16] N (fun m t wr => ∃ (k : Nat) (bs : List (Loc × Shf0.Bay)) (bv : Value), m + k = N ∧ t = .int .i64 k ∧ Making w c sb k bs bv wr ∧ Fr (fun q => w.heap.size + 1 ≤ q) w4 wr)
  case atStart => exact ⟨0, _, _, rfl, rfl, HMK.out, Fr.refl _ _⟩
  case round =>
    obtain ⟨k, bs, bv, hm, rfl, hmk, hfr⟩ := hrel
    have HM := Lib.hid hm; clear hm
    have HK := Lib.hid hmk; clear hmk
    have hrs := hfr.size
    by_cases hk : k < N
    · obtain ⟨a1, a2, a3, a4, a5, a6⟩ := HCE.out
      have hh := HK.out.head
      rw [a1, ← a2, ← a3, ← a4, ← a5, ← a6] at hh
      have HH := Lib.hid hh
      have c6 : wr.cell? ⟨sb, 6, none⟩ = some bv := cell_of_blk hh
      have u0 := (hfr.cb hl4 (by omega)).trans t0
      have u1 := (hfr.cb hl4 (by omega)).trans t1
      have u2 := (hfr.cb hl4 (by omega)).trans t2
      have u3 := (hfr.cb hl4 (by omega)).trans t3
      have u4 := (hfr.cb hl4 (by omega)).trans t4
      have u5 := (hfr.cb hl4 (by omega)).trans t5
      clear hh a1 a2 a3 a4 a5 a6 t0 t1 t2 t3 t4 t5
      have k1 : (k : Int) < N := by omega
      have hS : (fun W : World => W.cell? ⟨sb, 6, none⟩ = some bv ∧ W.cell? ⟨w.heap.size, 0, none⟩ = some (.int .i64 N) ∧ W.cell? ⟨w.heap.size, 1, none⟩ = some (.int .i64 n1) ∧ W.cell? ⟨w.heap.size, 2, none⟩ = some (.int .i64 n2) ∧ W.cell? ⟨w.heap.size, 3, none⟩ = some (.int .i64 n3) ∧ W.cell? ⟨w.heap.size, 4, none⟩ = some (.int .i64 n4) ∧ W.cell? ⟨w.heap.size, 5, none⟩ = some (.int .i64 n5)) wr.drew := ⟨c6, u0, u1, u2, u3, u4, u5⟩
      go_wp2_with fail
      refine wp_region_seqF (fun W => W.cell? ⟨sb, 6, none⟩ = some bv ∧ W.cell? ⟨w.heap.size, 0, none⟩ = some (.int .i64 N) ∧ W.cell? ⟨w.heap.size, 1, none⟩ = some (.int .i64 n1) ∧ W.cell? ⟨w.heap.size, 2, none⟩ = some (.int .i64 n2) ∧ W.cell? ⟨w.heap.size, 3, none⟩ = some (.int .i64 n3) ∧ W.cell? ⟨w.heap.size, 4, none⟩ = some (.int .i64 n4) ∧ W.cell? ⟨w.heap.size, 5, none⟩ = some (.int .i64 n5)) [0, 1, 2, 3, 4, 5, 6, 7, 8, 9, 10, 11, 12, 13] [6, 7, 9, 10, 13] 13 (by kernel_rfl) (by kernel_rfl) (by kernel_rfl) ?_
      simp only [pickOps, List.filterMap_cons, List.filterMap_nil, List.getElem?_toArray, List.getElem?_cons_zero, List.getElem?_cons_succ, Option.map_some]
      repeat (refine seqF_read (v := ?_) (by rfl) (by rfl) hS ?_ ?_; rotate_left; (focus (intro W hS; (try dsimp only at hS); obtain ⟨s1, s2, s3, s4, s5, s6, s7⟩ := hS; go_simp; try with_reducible rfl)); simp only [Act.put, List.setIfInBounds_toArray, List.set_cons_zero, List.set_cons_succ])
      refine seqF_eff (by rfl) (by rfl) fun K hK => ?_
      have hsl : sb < wr.heap.size := lt_of_blk HH.out
      have hcl : w.heap.size < wr.heap.size := Nat.lt_of_lt_of_le hl4 hrs
      refine wp_callC 61 #[.agg #[.int .i64 N, .int .i64 n1, .int .i64 n2, .int .i64 n3, .int .i64 n4, .int .i64 n5]] (by go_simp) (R := fun v w' => v = .int .i64 n ∧ Fr (fun _ => False) wr w') ((HSC.out wr.drew).mono (by rintro e w' ⟨rfl, hf⟩; exact ⟨_, rfl, rfl, hf.undrew⟩)) ?_
      rintro v x1 ⟨rfl, g1⟩
      have hS1 : (fun W : World => W.cell? ⟨sb, 6, none⟩ = some bv ∧ W.cell? ⟨w.heap.size, 0, none⟩ = some (.int .i64 N) ∧ W.cell? ⟨w.heap.size, 1, none⟩ = some (.int .i64 n1) ∧ W.cell? ⟨w.heap.size, 2, none⟩ = some (.int .i64 n2) ∧ W.cell? ⟨w.heap.size, 3, none⟩ = some (.int .i64 n3) ∧ W.cell? ⟨w.heap.size, 4, none⟩ = some (.int .i64 n4) ∧ W.cell? ⟨w.heap.size, 5, none⟩ = some (.int .i64 n5)) x1 :=
        ⟨(g1.cb hsl (fun h => h)).trans c6, (g1.cb hcl (fun h => h)).trans u0, (g1.cb hcl (fun h => h)).trans u1, (g1.cb hcl (fun h => h)).trans u2, (g1.cb hcl (fun h => h)).trans u3, (g1.cb hcl (fun h => h)).trans u4, (g1.cb hcl (fun h => h)).trans u5⟩
      refine hK.out _ _ (fun _ => hS1) ?_
      simp only [Act.put, List.setIfInBounds_toArray, List.set_cons_zero, List.set_cons_succ]
      refine seqF_eff (by rfl) (by rfl) fun K hK => ?_
      refine wp_callC 24 #[.int .i64 n] (by go_simp) (R := fun v w' => ∃ L : Loc, v = .pointer (some ⟨L.g, 0, none⟩) ∧ DK w' L (new n) ∧ (∀ q, L.has q → x1.heap.size ≤ q) ∧ Fr (fun _ => False) x1 w') ((new_calls n x1).mono (by
        rintro e w' ⟨g, bd, bc, ba, rfl, hd, hf, hbd, hbc, hba, hg⟩
        obtain ⟨L, hLg, hL, hLh⟩ := DK.of hd x1.heap.size hg hbd hbc hba
        exact ⟨_, rfl, L, by rw [hLg], hL, hLh, hf⟩)) ?_
      rintro v x2 ⟨L, rfl, hL, hLh, g2⟩
      have hsl1 := Nat.lt_of_lt_of_le hsl g1.size
      have hcl1 := Nat.lt_of_lt_of_le hcl g1.size
      have hS2 : (fun W : World => W.cell? ⟨sb, 6, none⟩ = some bv ∧ W.cell? ⟨w.heap.size, 0, none⟩ = some (.int .i64 N) ∧ W.cell? ⟨w.heap.size, 1, none⟩ = some (.int .i64 n1) ∧ W.cell? ⟨w.heap.size, 2, none⟩ = some (.int .i64 n2) ∧ W.cell? ⟨w.heap.size, 3, none⟩ = some (.int .i64 n3) ∧ W.cell? ⟨w.heap.size, 4, none⟩ = some (.int .i64 n4) ∧ W.cell? ⟨w.heap.size, 5, none⟩ = some (.int .i64 n5)) x2 :=
        ⟨(g2.cb hsl1 (fun h => h)).trans hS1.1, (g2.cb hcl1 (fun h => h)).trans hS1.2.1, (g2.cb hcl1 (fun h => h)).trans hS1.2.2.1, (g2.cb hcl1 (fun h => h)).trans hS1.2.2.2.1, (g2.cb hcl1 (fun h => h)).trans hS1.2.2.2.2.1, (g2.cb hcl1 (fun h => h)).trans hS1.2.2.2.2.2.1, (g2.cb hcl1 (fun h => h)).trans hS1.2.2.2.2.2.2⟩
      have hDL := Lib.hid hL; clear hL
      have hLH := Lib.hid hLh; clear hLh
      refine hK.out _ _ (fun _ => hS2) ?_
      simp only [Act.put, List.setIfInBounds_toArray, List.set_cons_zero, List.set_cons_succ]
      repeat (refine seqF_read (v := ?_) (by rfl) (by rfl) hS2 ?_ ?_; rotate_left; (focus (intro W hS; (try dsimp only at hS); obtain ⟨s1, s2, s3, s4, s5, s6, s7⟩ := hS; go_simp; try with_reducible rfl)); simp only [Act.put, List.setIfInBounds_toArray, List.set_cons_zero, List.set_cons_succ])
      refine seqF_eff (by rfl) (by rfl) fun K hK => ?_
      unfold Oper.wp
      go_simp
      obtain ⟨x3, hx3⟩ : ∃ x3, x3 = x2.alloc (.cells #[.pointer (some ⟨L.g, 0, none⟩), .int .i64 1] 106) := ⟨_, rfl⟩
      have b3 : x3.heap[x2.heap.size]? = some (.cells #[.pointer (some ⟨L.g, 0, none⟩), .int .i64 1] 106 (0, 0)) := by rw [hx3]; exact heap_alloc_new x2 _
      have g3 : Fr (fun _ => False) x2 x3 := by rw [hx3]; exact (Fr.refl _ _).alloc _
      rw [← hx3]
      clear hx3
      have hsl2 := Nat.lt_of_lt_of_le hsl1 g2.size
      have hcl2 := Nat.lt_of_lt_of_le hcl1 g2.size
      have hS3 : (fun W : World => W.cell? ⟨sb, 6, none⟩ = some bv ∧ W.cell? ⟨w.heap.size, 0, none⟩ = some (.int .i64 N) ∧ W.cell? ⟨w.heap.size, 1, none⟩ = some (.int .i64 n1) ∧ W.cell? ⟨w.heap.size, 2, none⟩ = some (.int .i64 n2) ∧ W.cell? ⟨w.heap.size, 3, none⟩ = some (.int .i64 n3) ∧ W.cell? ⟨w.heap.size, 4, none⟩ = some (.int .i64 n4) ∧ W.cell? ⟨w.heap.size, 5, none⟩ = some (.int .i64 n5)) x3 :=
        ⟨(g3.cb hsl2 (fun h => h)).trans hS2.1, (g3.cb hcl2 (fun h => h)).trans hS2.2.1, (g3.cb hcl2 (fun h => h)).trans hS2.2.2.1, (g3.cb hcl2 (fun h => h)).trans hS2.2.2.2.1, (g3.cb hcl2 (fun h => h)).trans hS2.2.2.2.2.1, (g3.cb hcl2 (fun h => h)).trans hS2.2.2.2.2.2.1, (g3.cb hcl2 (fun h => h)).trans hS2.2.2.2.2.2.2⟩
      refine hK.out _ _ (fun _ => hS3) ?_
      refine seqF_eff (by rfl) (by rfl) fun K hK => ?_
      have g13 : Fr (fun _ => False) wr x3 := (g1.trans g2).trans g3
      have hrow3 := row_keep' HK.out.row g13
      have hlen := HK.out.len
      refine wp_append_el _ _ 101 rfl w.heap.size mt101 hi hy0 hy1 hy2 rfl (by decide) rfl hrow3 rfl b3 rfl (by simp [Value.oneCell']) (by unfold maxLen; omega) (by omega) (by have := g13.size; omega) ?_
      intro v' x4 o4 gr4
      have g4 : Fr (fun k => some k = bv.ownBlock) x3 x4 := Fr.of_grown gr4
      have hh3 := (g13.block _ hsl (fun h => h)).trans HH.out
      have HB3 := Lib.hid b3; clear b3
      have hns : ¬ some sb = bv.ownBlock := own_not hrow3 hh3 (by decide)
      have hcell3 : ∃ cs fr, x3.heap[w.heap.size]? = some (.cells cs 23 fr) := by
        have := HCB.out
        exact ⟨_, _, (g13.block _ hcl (fun h => h)).trans ((hfr.block _ hl4 (by omega)).trans this)⟩
      obtain ⟨ccs, cfr, hcb3⟩ := hcell3
      have hnc : ¬ some w.heap.size = bv.ownBlock := own_not hrow3 hcb3 (by decide)
      clear hcb3
      have hsl3 := Nat.lt_of_lt_of_le hsl g13.size
      have hcl3 := Nat.lt_of_lt_of_le hcl g13.size
      have hS4 : (fun W : World => W.cell? ⟨sb, 6, none⟩ = some bv ∧ W.cell? ⟨w.heap.size, 0, none⟩ = some (.int .i64 N) ∧ W.cell? ⟨w.heap.size, 1, none⟩ = some (.int .i64 n1) ∧ W.cell? ⟨w.heap.size, 2, none⟩ = some (.int .i64 n2) ∧ W.cell? ⟨w.heap.size, 3, none⟩ = some (.int .i64 n3) ∧ W.cell? ⟨w.heap.size, 4, none⟩ = some (.int .i64 n4) ∧ W.cell? ⟨w.heap.size, 5, none⟩ = some (.int .i64 n5)) x4 :=
        ⟨(g4.cb hsl3 hns).trans hS3.1, (g4.cb hcl3 hnc).trans hS3.2.1, (g4.cb hcl3 hnc).trans hS3.2.2.1, (g4.cb hcl3 hnc).trans hS3.2.2.2.1, (g4.cb hcl3 hnc).trans hS3.2.2.2.2.1, (g4.cb hcl3 hnc).trans hS3.2.2.2.2.2.1, (g4.cb hcl3 hnc).trans hS3.2.2.2.2.2.2⟩
      have O4 := Lib.hid o4; clear o4
      have HH4 := Lib.hid ((g4.block _ hsl3 hns).trans hh3)
      clear hh3
      refine hK.out _ _ (fun _ => hS4) ?_
      simp only [Act.put, List.setIfInBounds_toArray, List.set_cons_zero, List.set_cons_succ]
      repeat (refine seqF_read (v := ?_) (by rfl) (by rfl) hS4 ?_ ?_; rotate_left; (focus (intro W hS; (try dsimp only at hS); obtain ⟨s1, s2, s3, s4, s5, s6, s7⟩ := hS; go_simp; try with_reducible rfl)); simp only [Act.put, List.setIfInBounds_toArray, List.set_cons_zero, List.set_cons_succ])
      refine seqF_eff (by rfl) (by rfl) fun K hK => ?_
      have hv1 : v'.oneCell' = true := by
        obtain ⟨-, h2 | ⟨gb, vc, cur, h2, -⟩⟩ := O4.out
        · rw [h2.1]; rfl
        · rw [h2]; rfl
      refine wp_store1 101 _ _ rfl (v := v') rfl rfl hv1 (by kernel_rfl) HH4.out (by simp) ?_
      intro x5 b5 g5 z5
      have B5 := Lib.hid b5; clear b5 z5
      refine hK.out _ _ (fun h => absurd rfl h) ?_
      refine seqF_nil ?_
      have hmk5 : Making w c sb (k + 1) (bs ++ [(L, ⟨new (Shf0.sectors c), 1⟩)]) v' x5 := by
        have hdisk3 : ∀ (M : Loc) (D : Dsk), DK x3 M D → DK x5 M D := fun M D hd => (hd.fr g4 (own_disk hrow3 hd (by decide) (by decide))).fr g5 fun q hq e => by
          subst e
          exact (hd.fr g4 (own_disk hrow3 hd (by decide) (by decide))).not HH4.out (by decide) (by decide) hq
        have hnewD : DK x5 L (new (Shf0.sectors c)) := by
          have := hDL.out
          rw [HN.out] at this
          exact hdisk3 _ _ (this.keep g3)
        refine ⟨?_, ?_, by simp [HK.out.len], fun x hx => ?_, ?_, ?_, HK.out.ge⟩
        · have := B5.out
          rw [← HCE.out.1, HCE.out.2.1, HCE.out.2.2.1, HCE.out.2.2.2.1, HCE.out.2.2.2.2.1, HCE.out.2.2.2.2.2] at this
          exact this
        · rw [List.flatMap_append]
          exact own_row O4.out g5 (fun b cs hb e => by subst e; exact absurd (cells_type hb HH4.out) (by decide))
        · rcases List.mem_append.1 hx with hx | hx
          · obtain ⟨h1, h2, h3⟩ := HK.out.each x hx
            exact ⟨h1, hdisk3 _ _ (h2.keep g13), h3⟩
          · have e : x = (L, ⟨new (Shf0.sectors c), 1⟩) := by simpa using hx
            subst e
            exact ⟨rfl, hnewD, fun q hq => by have := hLH.out q hq; have := g1.size; omega⟩
        · rw [List.map_append, List.pairwise_append]
          refine ⟨HK.out.apart, by simp, fun M hM M2 hM2 => ?_⟩
          have e : M2 = L := by simpa using hM2
          subst e
          obtain ⟨x, hx, rfl⟩ := List.mem_map.1 hM
          intro q hq hq'
          have h1 := (HK.out.each x hx).2.1.lthas hq
          have h2 := hLH.out q hq'
          have := g1.size
          omega
        · refine ((HK.out.fr.trans g13.no).trans (g4.mono fun q _ hq => ?_)).trans (g5.mono fun q _ hq => ?_)
          · exact row_block hrow3 hq
          · rw [hq]; exact HK.out.ge
      have HMK5 := Lib.hid hmk5; clear hmk5
      have hfin : Fr (fun q => w.heap.size + 1 ≤ q) w4 x5 := by
        refine ((hfr.trans g13.no).trans (g4.mono fun q _ hq => ?_)).trans (g5.mono fun q _ hq => ?_)
        · have h1 := row_block hrow3 hq
          have h2 : q ≠ w.heap.size := fun e => hnc (by rw [← e]; exact hq)
          omega
        · omega
      have HFIN := Lib.hid hfin; clear hfin
      clear hK c6 u0 u1 u2 u3 u4 u5 hS hS1 hS2 hS3 hS4 g1 g2 g3 g4 g5 g13 gr4 HK HH HH4 O4 hDL hrow3 hv1 hns hnc
      go_wp2_with fail
      have hn : gk + k = N := HM.out
      go_roundg (gk - 1)
      case measure => omega
      case rel => exact ⟨k + 1, _, _, by omega, by go_num, HMK5.out, HFIN.out⟩
    · have hkn : k = N := by have := HM.out; omega
      have hkd : k = c.disks.toNat := by rw [HCE.out.1]; omega
      go_wp2_with fail
      go_ret2
      exact ⟨sb, rfl, HK.out.done HV.out HS.out hkd, fr_below' HK.out.fr⟩
end Go.Proofs.Ytmbkmfpnjpkakaa
