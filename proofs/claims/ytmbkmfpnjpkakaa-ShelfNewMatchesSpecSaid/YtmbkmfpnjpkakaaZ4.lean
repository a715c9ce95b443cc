/- The reference shelf: New. -/
import Derived.Test.YtmbkmfpnjpkakaaZ3
import Derived.Test.YtmbkmfpnjpkakaaZ1
namespace Go.Im
open Go
/-- One element appended to a row: what may turn is the row's block. -/
theorem im_append_g {P : Program} {Q : Exit → Act → World → Prop} {ops : Array Oper} {rest : List Oper} {o : Oper} {a : Act} {w : World} (hg : o.guard = none) (s x : Operand) (t : TypeId) (hop : o.op = .call { callee := .builtin .append, args := #[s, x], argTypes := #[t, t] })
    (base : Nat) {e : TypeId} {i : TypeInfo} {z : Value} {size bytes : Nat} (ht : P.underlying t = some (.slice e)) (hi : P.info? e = some i) (hz : i.zero = some z)
    (hsize : i.size = size) (hby : i.bytes = bytes) (hzs : z.cells.size = size) (hsz : 0 < size)
    {v : Value} {n : Nat} {xs : List Value} (hs : a.eval s = v) (hown : w.ownsRow base e size v n xs)
    {b c : Nat} {cs : Array Value} {te : TypeId} (hx : a.eval x = .slice (some ⟨b, 0, none⟩) 1 c) (hb : w.heap[b]? = some (.cells cs te (0, 0))) (hl : cs.size = size) (h1 : ∀ u ∈ cs.toList, u.oneCell' = true)
    (h63 : n + 1 ≤ maxLen) (hbytes : (n + 1) * bytes ≤ 140737488355328) (hbase : base ≤ w.heap.size)
    (h : ∀ v' w', w'.ownsRow base e size v' (n + 1) (xs ++ cs.toList) → Fr (fun q => some q = v.ownBlock) w w' → wpList P ops Q rest (a.put o.dst v') w') : wpList P ops Q (o :: rest) a w :=
  wpList_append_own w hg s x t hop base e i z size bytes ht hi hz hsize hby hzs hsz v n xs hs hown ⟨b, 0, none⟩ 1 c cs.toList hx (by simp [hl]) (fun j u hj => by
    have e1 : (⟨b, 0, none⟩ : Addr).add j = ⟨b, j, none⟩ := by simp [Addr.add]; omega
    rw [e1, cell_of_blk hb]; simpa using hj) h1 h63 hbytes hbase fun v' w' h2 h3 _ => h v' w' h2 (Fr.of_grown h3)
end Go.Im
namespace Go.Proofs.Ytmbkmfpnjpkakaa
open Go.RowKit Go.Im Go.Dsk0

theorem mt107 : Try.prog.underlying 107 = some (.slice 43) := by kernel_rfl
theorem mt46r : Try.prog.underlying 46 = some (.slice 3) := by kernel_rfl
theorem info43r : (Try.prog.info? 43).map (fun i => (i.zero, i.size, i.bytes)) = some (some (.pointer none), 1, 8) := by kernel_rfl
theorem info3r : (Try.prog.info? 3).map (fun i => (i.zero, i.size, i.bytes)) = some (some (.int .i64 0), 1, 8) := by kernel_rfl

/-- The parts of a new reference shelf that is being made. -/
structure RBuild (w0 : World) (c : Shf0.Cfg) (t kb ks : Nat) (ds : List (Nat × Nat)) (bv sv : Value) (w : World) : Prop where
  head : w.heap[t]? = some (.cells (rshC (Shf0.newS c) bv sv (.slice none 0 0)) 109 (0, 0))
  brow : w.ownsRow w0.heap.size 43 1 bv kb (ds.map ptrC)
  srow : w.ownsRow w0.heap.size 3 1 sv ks (List.replicate ks (.int .i64 1))
  kd : ∀ l ∈ ds, RD w l (new (Shf0.sectors c))
  nw : ∀ l ∈ ds, ∀ q, rhas l q → w0.heap.size ≤ q
  apart : ds.Pairwise RApart
  fr : Fr (fun q => w0.heap.size ≤ q) w0 w
  ge : w0.heap.size ≤ t

theorem noBytes_own {w : World} {base : Nat} {e : TypeId} {size : Nat} {v : Value} {n : Nat} {xs : List Value} (h : w.ownsRow base e size v n xs) (he : e ≠ 5) : noBytes w (fun q => some q = v.ownBlock) := fun b cs fr hb hq => by
  obtain ⟨cs', h1⟩ := own_lt h hq
  exact he (cells_type h1 hb)
theorem RD.not_own {w : World} {l : Nat × Nat} {D : Dsk} (h : RD w l D) {base : Nat} {e : TypeId} {size : Nat} {v : Value} {n : Nat} {xs : List Value} (ho : w.ownsRow base e size v n xs) (h1 : e ≠ 122) (h2 : e ≠ 124) : ∀ q, rhas l q → ¬ some q = v.ownBlock := fun q hq hv => by
  obtain ⟨cs, ty, h3, h4⟩ := h.blk hq
  obtain ⟨cs', h5⟩ := own_lt ho hv
  have := cells_type h3 h5
  rcases h4 with rfl | rfl
  · exact h1 this.symm
  · exact h2 this.symm
theorem RD.not_head {w : World} {l : Nat × Nat} {D : Dsk} (h : RD w l D) {t : Nat} {cs0 : Array Value} {e : TypeId} (ht : w.heap[t]? = some (.cells cs0 e (0, 0))) (h1 : e ≠ 122) (h2 : e ≠ 124) : ∀ q, rhas l q → ¬ q = t := fun q hq hv => by
  obtain ⟨cs, ty, h3, h4⟩ := h.blk hq
  subst hv
  have := cells_type h3 ht
  rcases h4 with rfl | rfl
  · exact h1 this.symm
  · exact h2 this.symm

section
variable {w0 : World} {c : Shf0.Cfg} {t kb ks : Nat} {ds : List (Nat × Nat)} {bv sv : Value} {w : World}
theorem RBuild.keep (h : RBuild w0 c t kb ks ds bv sv w) {w' : World} (f : Fr (fun _ => False) w w') : RBuild w0 c t kb ks ds bv sv w' :=
  ⟨(f.block _ (lt_of_blk h.head) (fun h => h)).trans h.head, row_keep' h.brow f, row_keep' h.srow f, fun l hl => (h.kd l hl).fr f (fun _ _ h => h) (noBytes_no w), h.nw, h.apart, h.fr.trans (f.mono fun _ _ h => h.elim), h.ge⟩
theorem RBuild.bay (h : RBuild w0 c t kb ks ds bv sv w) {w' w1 w2 : World} (f0 : Fr (fun _ => False) w w') {l : Nat × Nat} (hd : RD w' l (new (Shf0.sectors c))) (hl : ∀ q, rhas l q → w.heap.size ≤ q) {v' : Value}
    (f1 : Fr (fun q => some q = bv.ownBlock) w' w1) (o : w1.ownsRow w0.heap.size 43 1 v' (kb + 1) (ds.map ptrC ++ [ptrC l])) (f2 : Fr (fun q => q = t) w1 w2) (b2 : w2.heap[t]? = some (.cells (rshC (Shf0.newS c) v' sv (.slice none 0 0)) 109 (0, 0))) :
    RBuild w0 c t (kb + 1) ks (ds ++ [l]) v' sv w2 := by
  have h' := h.keep f0
  have ht1 := (f1.block t (lt_of_blk h'.head) (own_not h'.brow h'.head (by decide))).trans h'.head
  have hdk : ∀ {m : Nat × Nat} {D : Dsk}, RD w' m D → RD w2 m D := fun {m D} hm => by
    have a1 := hm.fr f1 (hm.not_own h'.brow (by decide) (by decide)) (noBytes_own h'.brow (by decide))
    exact a1.fr f2 (a1.not_head ht1 (by decide) (by decide)) (noBytes_row ht1 (by decide))
  have h0 := h.fr.size
  refine ⟨b2, ?_, ?_, fun m hm => ?_, fun m hm q hq => ?_, ?_, ?_, h.ge⟩
  · rw [List.map_append]
    exact own_row o f2 (fun q cs hq e => by subst e; exact absurd (cells_type hq ht1) (by decide))
  · have a1 := own_row h'.srow f1 (fun q cs hq => own_not h'.brow hq (by decide))
    exact own_row a1 f2 (fun q cs hq e => by subst e; exact absurd (cells_type hq ht1) (by decide))
  · rcases List.mem_append.1 hm with hm | hm
    · exact hdk (h'.kd m hm)
    · have e : m = l := by simpa using hm
      subst e
      exact hdk hd
  · rcases List.mem_append.1 hm with hm | hm
    · exact h.nw m hm q hq
    · have e : m = l := by simpa using hm
      subst e
      exact Nat.le_trans h0 (hl q hq)
  · rw [List.pairwise_append]
    refine ⟨h.apart, by simp, fun m hm n hn q hq hq' => ?_⟩
    have e : n = l := by simpa using hn
    subst e
    have h1 := (h.kd m hm).lt hq
    have h2 := hl q hq'
    omega
  · refine ((h.fr.trans (f0.mono fun _ _ h => h.elim)).trans (f1.mono fun q _ hq => row_block h'.brow hq)).trans (f2.mono fun q _ hq => ?_)
    rw [hq]; exact h.ge
theorem RBuild.sts (h : RBuild w0 c t kb ks ds bv sv w) {w' w1 w2 : World} (f0 : Fr (fun _ => False) w w') {v' : Value}
    (f1 : Fr (fun q => some q = sv.ownBlock) w' w1) (o : w1.ownsRow w0.heap.size 3 1 v' (ks + 1) (List.replicate ks (.int .i64 1) ++ [.int .i64 1])) (f2 : Fr (fun q => q = t) w1 w2) (b2 : w2.heap[t]? = some (.cells (rshC (Shf0.newS c) bv v' (.slice none 0 0)) 109 (0, 0))) :
    RBuild w0 c t kb (ks + 1) ds bv v' w2 := by
  have h' := h.keep f0
  have ht1 := (f1.block t (lt_of_blk h'.head) (own_not h'.srow h'.head (by decide))).trans h'.head
  have hdk : ∀ {m : Nat × Nat} {D : Dsk}, RD w' m D → RD w2 m D := fun {m D} hm => by
    have a1 := hm.fr f1 (hm.not_own h'.srow (by decide) (by decide)) (noBytes_own h'.srow (by decide))
    exact a1.fr f2 (a1.not_head ht1 (by decide) (by decide)) (noBytes_row ht1 (by decide))
  refine ⟨b2, ?_, ?_, fun m hm => hdk (h'.kd m hm), h.nw, h.apart, ?_, h.ge⟩
  · have a1 := own_row h'.brow f1 (fun q cs hq => own_not h'.srow hq (by decide))
    exact own_row a1 f2 (fun q cs hq e => by subst e; exact absurd (cells_type hq ht1) (by decide))
  · rw [List.replicate_succ']
    exact own_row o f2 (fun q cs hq e => by subst e; exact absurd (cells_type hq ht1) (by decide))
  · refine ((h.fr.trans (f0.mono fun _ _ h => h.elim)).trans (f1.mono fun q _ hq => row_block h'.srow hq)).trans (f2.mono fun q _ hq => ?_)
    rw [hq]; exact h.ge
theorem own_base {base : Nat} {e : TypeId} {size : Nat} {v : Value} {n : Nat} {xs : List Value} (h : w.ownsRow base e size v n xs) : w.ownsRow 0 e size v n xs := by
  obtain ⟨a1, a2 | ⟨g, cap, cur, a2, a3, a4⟩⟩ := h
  · exact ⟨a1, .inl a2⟩
  · exact ⟨a1, .inr ⟨g, cap, cur, a2, Nat.zero_le _, a4⟩⟩
theorem own_both {base : Nat} {e : TypeId} {size : Nat} {v : Value} {n : Nat} {xs : List Value} (h : w.ownsRow base e size v n xs) : ∀ q, some q = v.ownBlock → base ≤ q ∧ q < w.heap.size := fun q hq => by
  obtain ⟨cs, h1⟩ := own_lt h hq
  exact ⟨row_block h hq, lt_of_blk h1⟩
theorem RBuild.done {k : Nat} (h : RBuild w0 c t k k ds bv sv w) (hv : Shf0.valid c) (hs : Shf0.sectors c ≤ 65536) (hk : (k : Int) = c.disks) : RShelfAt w (fun q => w0.heap.size ≤ q ∧ q < w.heap.size) t (Shf0.newS c) := by
  have hn : (Shf0.newS c).bays = List.replicate k ⟨new (Shf0.sectors c), 1⟩ := by unfold Shf0.newS; rw [show c.disks.toNat = k by omega]
  have hnl : (Shf0.newS c).bays.length = k := by rw [hn]; simp
  refine ⟨ds, [], bv, sv, .slice none 0 0, ⟨Shf0.newS_ok hv hs, h.head, ?_, ?_, World.ownsRow_nil _ _ _ _, (by intro q _ h; cases h), fun i l b h1 h2 => ?_, (by intro i l D h1; simp at h1), by simpa using h.apart, ⟨h.ge, lt_of_blk h.head⟩, own_both h.brow, own_both h.srow, (by intro q h; cases h), fun l hl q hq => ?_, fun q hq => hq.2⟩⟩
  · rw [hnl]; exact own_base h.brow
  · rw [hnl, hn, List.map_replicate]; exact own_base h.srow
  · have hb : b = ⟨new (Shf0.sectors c), 1⟩ := by
      rw [hn, List.getElem?_replicate] at h2
      split at h2
      · injection h2 with h2; exact h2.symm
      · cases h2
    rw [hb]
    exact h.kd l (List.mem_of_getElem? h1)
  · rw [List.append_nil] at hl
    exact ⟨h.nw l hl q hq, (h.kd l hl).lt hq⟩
end

theorem cells7 {W W' : World} {T : Nat → Prop} (f : Fr T W W') {a b : Nat} {v0 v1 v2 v3 v4 v5 v6 : Value} (h : W.cell? ⟨a, 6, none⟩ = some v0 ∧ W.cell? ⟨b, 0, none⟩ = some v1 ∧ W.cell? ⟨b, 1, none⟩ = some v2 ∧ W.cell? ⟨b, 2, none⟩ = some v3 ∧ W.cell? ⟨b, 3, none⟩ = some v4 ∧ W.cell? ⟨b, 4, none⟩ = some v5 ∧ W.cell? ⟨b, 5, none⟩ = some v6) (h1 : ¬ T a) (h2 : ¬ T b) :
    W'.cell? ⟨a, 6, none⟩ = some v0 ∧ W'.cell? ⟨b, 0, none⟩ = some v1 ∧ W'.cell? ⟨b, 1, none⟩ = some v2 ∧ W'.cell? ⟨b, 2, none⟩ = some v3 ∧ W'.cell? ⟨b, 3, none⟩ = some v4 ∧ W'.cell? ⟨b, 4, none⟩ = some v5 ∧ W'.cell? ⟨b, 5, none⟩ = some v6 := by
  obtain ⟨a0, a1, a2, a3, a4, a5, a6⟩ := h
  have l1 := World.block_lt_of_cell? W _ a0
  have l2 := World.block_lt_of_cell? W _ a1
  exact ⟨(f.cb l1 h1).trans a0, (f.cb l2 h2).trans a1, (f.cb l2 h2).trans a2, (f.cb l2 h2).trans a3, (f.cb l2 h2).trans a4, (f.cb l2 h2).trans a5, (f.cb l2 h2).trans a6⟩
theorem RD.of {w : World} {g bl : Nat} {D : Dsk} (h : RefAt w g bl D) : ∃ l : Nat × Nat, l.1 = g ∧ (l.2 = g ∨ l.2 = bl) ∧ RD w l D := by
  by_cases hD : D = []
  · subst hD
    obtain ⟨hk, av, cap, h1, h2, -⟩ := h
    exact ⟨(g, g), rfl, .inl rfl, ⟨hk, av, cap, h1, h2, .inl rfl⟩, fun _ => rfl⟩
  · exact ⟨(g, bl), rfl, .inr rfl, h, fun h' => absurd h' hD⟩
/-- What the reference's New leaves. -/
def RSNew (c : Shf0.Cfg) (w : World) (e : Ending) (w' : World) : Prop := ∃ t : Nat, e = .returned (.tuple #[.pointer (some ⟨t, 0, none⟩), .int .i64 0]) ∧ RShelfAt w' (fun q => w.heap.size ≤ q ∧ q < w'.heap.size) t (Shf0.newS c) ∧ Fr (fun _ => False) w w'

theorem rsnew_bad (c : Shf0.Cfg) (w : World) (hv : ¬ Shf0.valid c) : Calls Try.prog 18 #[cfgV c] w fun e w' => e = .returned (.tuple #[.pointer none, .int .i64 1]) ∧ Fr (fun _ => False) w w' := by
  have hck := fun W => rcheck_calls c W
  rw [if_neg hv] at hck
  unfold cfgV at hck ⊢
  have HCK := Lib.hid hck; clear hck hv
  go_enter Try.func18, Try.ntmps18
  go_wp2_with (first
    | (refine im_box rfl 23 _ rfl rfl ?_; intro w1 b1 f1 z1; have Z1 := Lib.hid z1; clear z1; obtain ⟨p0, p1, p2, p3, p4, p5⟩ := cfgA_cells (c := c) b1; have hl1 := lt_of_blk b1; clear b1))
  refine (HCK.out w1).mono ?_; rintro e w2 ⟨rfl, f2⟩
  go_wp2_with fail
  go_ret2
  exact ⟨rfl, f1.trans f2⟩

theorem rsh_one (S : Shf0.Shelf) (bv sv iv : Value) (h1 : bv.oneCell' = true) (h2 : sv.oneCell' = true) (h3 : iv.oneCell' = true) : (rshC S bv sv iv).all (·.oneCell') = true := by simp [rshC, h1, h2, h3]; simp [Value.oneCell']

set_option maxRecDepth 100000 in
set_option maxHeartbeats 4000000 in
theorem rsnew_ok (c : Shf0.Cfg) (w : World) (hv : Shf0.valid c) (hs : Shf0.sectors c ≤ 65536) : Calls Try.prog 18 #[cfgV c] w fun e w' => RSNew c w e w' := by
  have hck := fun W => rcheck_calls c W
  rw [if_pos hv] at hck
  have hsc := fun W => rsectors_calls c W hv
  obtain ⟨N, hN⟩ : ∃ N : Nat, c.disks = (N : Int) := ⟨c.disks.toNat, by have := hv.1.1; omega⟩
  have hN64 : N ≤ 64 := by have := hv.1.2; omega
  have hs0 : 0 ≤ Shf0.sectors c := by
    obtain ⟨-, -, h3, h4, h5, h6, h7, h8⟩ := valid_bd hv
    unfold Shf0.sectors; omega
  obtain ⟨sec, hsec⟩ : ∃ s, s = Shf0.sectors c := ⟨_, rfl⟩
  rw [← hsec] at hsc hs hs0
  obtain ⟨n0, hn0⟩ : ∃ n0, n0 = c.disks := ⟨_, rfl⟩
  obtain ⟨n1, hn1⟩ : ∃ n1, n1 = c.racks := ⟨_, rfl⟩
  obtain ⟨n2, hn2⟩ : ∃ n2, n2 = c.rows := ⟨_, rfl⟩
  obtain ⟨n3, hn3⟩ : ∃ n3, n3 = c.spare := ⟨_, rfl⟩
  obtain ⟨n4, hn4⟩ : ∃ n4, n4 = c.log := ⟨_, rfl⟩
  obtain ⟨n5, hn5⟩ : ∃ n5, n5 = c.image := ⟨_, rfl⟩
  have hrc : ∀ bv sv, rshC (Shf0.newS c) bv sv (.slice none 0 0) = #[.int .i64 n0, .int .i64 n1, .int .i64 n2, .int .i64 n3, .int .i64 n4, .int .i64 n5, bv, sv, .slice none 0 0, .bool true, .int .i64 (-1)] := fun bv sv => by
    unfold rshC; rw [hn0, hn1, hn2, hn3, hn4, hn5]; rfl
  have hcv : cfgV c = .agg #[.int .i64 n0, .int .i64 n1, .int .i64 n2, .int .i64 n3, .int .i64 n4, .int .i64 n5] := by unfold cfgV; rw [hn0, hn1, hn2, hn3, hn4, hn5]
  have hn0N : n0 = N := by rw [hn0, hN]
  have hcell : ∀ (W : World) (b : Nat), W.heap[b]? = some (.cells #[.int .i64 n0, .int .i64 n1, .int .i64 n2, .int .i64 n3, .int .i64 n4, .int .i64 n5] 23 (0, 0)) → W.cell? ⟨b, 0, none⟩ = some (.int .i64 n0) ∧ W.cell? ⟨b, 1, none⟩ = some (.int .i64 n1) ∧ W.cell? ⟨b, 2, none⟩ = some (.int .i64 n2) ∧ W.cell? ⟨b, 3, none⟩ = some (.int .i64 n3) ∧ W.cell? ⟨b, 4, none⟩ = some (.int .i64 n4) ∧ W.cell? ⟨b, 5, none⟩ = some (.int .i64 n5) := fun W b hb => ⟨cell_of_blk hb, cell_of_blk hb, cell_of_blk hb, cell_of_blk hb, cell_of_blk hb, cell_of_blk hb⟩
  rw [hcv] at hck hsc ⊢
  have HCK := Lib.hid hck
  have HSC := Lib.hid hsc
  have HRC := Lib.hid hrc
  have HV := Lib.hid (And.intro hv hN)
  have HSEC := Lib.hid hsec
  clear hck hsc hrc hcv hN hn0 hn1 hn2 hn3 hn4 hn5 hv hsec
  subst hn0N
  obtain ⟨i4, hi4, hy40, hy41, hy42⟩ := info_parts info43r
  obtain ⟨i3, hi3, hy30, hy31, hy32⟩ := info_parts info3r
  go_enter Try.func18, Try.ntmps18
  go_wp2_with (first
    | (refine im_box rfl 23 _ rfl rfl ?_; intro w1 b1 f1 z1; have Z1 := Lib.hid z1; clear z1; obtain ⟨p0, p1, p2, p3, p4, p5⟩ := hcell _ _ b1; have hl1 := lt_of_blk b1; clear b1))
  refine (HCK.out w1).mono ?_; rintro e w2 ⟨rfl, f2⟩
  have q0 := (f2.cb hl1 (fun h => h)).trans p0
  have q1 := (f2.cb hl1 (fun h => h)).trans p1
  have q2 := (f2.cb hl1 (fun h => h)).trans p2
  have q3 := (f2.cb hl1 (fun h => h)).trans p3
  have q4 := (f2.cb hl1 (fun h => h)).trans p4
  have q5 := (f2.cb hl1 (fun h => h)).trans p5
  have hl2 := Nat.lt_of_lt_of_le hl1 f2.size
  clear p0 p1 p2 p3 p4 p5
  go_wp2_with fail
  refine (HSC.out w2).mono ?_; rintro e w3 ⟨rfl, f3⟩
  have r0 := (f3.cb hl2 (fun h => h)).trans q0
  have r1 := (f3.cb hl2 (fun h => h)).trans q1
  have r2 := (f3.cb hl2 (fun h => h)).trans q2
  have r3 := (f3.cb hl2 (fun h => h)).trans q3
  have r4 := (f3.cb hl2 (fun h => h)).trans q4
  have r5 := (f3.cb hl2 (fun h => h)).trans q5
  have hl3 := Nat.lt_of_lt_of_le hl2 f3.size
  have hsb : ¬ (65536 < sec) := by omega
  have F3 := Lib.hid ((f1.trans f2).trans f3)
  clear q0 q1 q2 q3 q4 q5 f1 f2 f3
  go_wp2_with (first
    | (refine im_box rfl 109 _ rfl rfl ?_; intro w4 b4 f4 z4; have B4 := Lib.hid b4; clear b4; have Z4 := Lib.hid z4; clear z4))
  have hb : RBuild w3 c w3.heap.size 0 0 [] (.slice none 0 0) (.slice none 0 0) w4 := ⟨by rw [HRC.out]; exact B4.out, World.ownsRow_nil _ _ _ _, World.ownsRow_nil _ _ _ _, (by intro l hl; cases hl), (by intro l hl; cases hl), List.Pairwise.nil, f4.mono fun _ _ h => h.elim, Nat.le_refl _⟩
  have HB0 := Lib.hid hb; clear hb
  obtain ⟨tb, htb⟩ : ∃ tb, tb = w3.heap.size := ⟨_, rfl⟩
  have HTB := Lib.hid (show tb = w3.heap.size from htb)
  rw [← htb] at HB0 ⊢
  clear htb f4 B4 Z4
  go_loopg [6] N (fun m t6 wr => ∃ (k : Nat) (ds : List (Nat × Nat)) (bv sv : Value), m + k = N ∧ t6 = .int .i64 k ∧ RBuild w3 c tb k k ds bv sv wr)
  case atStart => exact ⟨0, _, _, _, rfl, rfl, HB0.out⟩
  case round =>
    obtain ⟨k, ds, bv, sv, hm, rfl, hbu⟩ := hrel
    have HM := Lib.hid hm; clear hm
    have HB := Lib.hid hbu; clear hbu
    have hfw := fr_below' HB.out.fr
    have s0 := (hfw.cb hl3 (fun h => h)).trans r0
    have s1 := (hfw.cb hl3 (fun h => h)).trans r1
    have s2 := (hfw.cb hl3 (fun h => h)).trans r2
    have s3 := (hfw.cb hl3 (fun h => h)).trans r3
    have s4 := (hfw.cb hl3 (fun h => h)).trans r4
    have s5 := (hfw.cb hl3 (fun h => h)).trans r5
    have hlr := Nat.lt_of_lt_of_le hl3 hfw.size
    by_cases hk : k < N
    · have k1 : (k : Int) < N := by omega
      have c6 : wr.cell? ⟨tb, 6, none⟩ = some bv := cell_of_blk HB.out.head
      have htl := lt_of_blk HB.out.head
      have hbx : w.heap.size ≠ tb := by have := HTB.out; omega
      have hbase : w3.heap.size ≤ wr.heap.size := hfw.size
      have HBASE := Lib.hid hbase; clear hbase
      clear hfw
      go_wp2_with fail
      have hS : (fun W : World => W.cell? ⟨tb, 6, none⟩ = some bv ∧ W.cell? ⟨w.heap.size, 0, none⟩ = some (.int .i64 N) ∧ W.cell? ⟨w.heap.size, 1, none⟩ = some (.int .i64 n1) ∧ W.cell? ⟨w.heap.size, 2, none⟩ = some (.int .i64 n2) ∧ W.cell? ⟨w.heap.size, 3, none⟩ = some (.int .i64 n3) ∧ W.cell? ⟨w.heap.size, 4, none⟩ = some (.int .i64 n4) ∧ W.cell? ⟨w.heap.size, 5, none⟩ = some (.int .i64 n5)) wr.drew := ⟨c6, s0, s1, s2, s3, s4, s5⟩
      refine wp_region_seqF (fun W => W.cell? ⟨tb, 6, none⟩ = some bv ∧ W.cell? ⟨w.heap.size, 0, none⟩ = some (.int .i64 N) ∧ W.cell? ⟨w.heap.size, 1, none⟩ = some (.int .i64 n1) ∧ W.cell? ⟨w.heap.size, 2, none⟩ = some (.int .i64 n2) ∧ W.cell? ⟨w.heap.size, 3, none⟩ = some (.int .i64 n3) ∧ W.cell? ⟨w.heap.size, 4, none⟩ = some (.int .i64 n4) ∧ W.cell? ⟨w.heap.size, 5, none⟩ = some (.int .i64 n5)) [0, 1, 2, 3, 4, 5, 6, 7, 8, 9, 10, 11, 12] [6, 7, 8, 9, 12] 12 (by kernel_rfl) (by kernel_rfl) (by kernel_rfl) ?_
      simp only [pickOps, List.filterMap_cons, List.filterMap_nil, List.getElem?_toArray, List.getElem?_cons_zero, List.getElem?_cons_succ, Option.map_some]
      repeat (refine seqF_read (v := ?_) (by rfl) (by rfl) hS ?_ ?_; rotate_left; (focus (intro W hS; (try dsimp only at hS); obtain ⟨a0, a1, a2, a3, a4, a5, a6⟩ := hS; go_simp; try with_reducible rfl)); simp only [Act.put, List.setIfInBounds_toArray, List.set_cons_zero, List.set_cons_succ])
      refine seqF_eff (by rfl) (by rfl) fun K hK => ?_
      refine wp_callC 59 #[.agg #[.int .i64 N, .int .i64 n1, .int .i64 n2, .int .i64 n3, .int .i64 n4, .int .i64 n5]] (by go_simp) (R := fun v w' => v = .int .i64 sec ∧ Fr (fun _ => False) wr w') ((HSC.out wr.drew).mono (by rintro e w' ⟨rfl, hf⟩; exact ⟨_, rfl, rfl, hf.undrew⟩)) ?_
      rintro v y1 ⟨rfl, g1⟩
      have hS1 := cells7 g1 ⟨c6, s0, s1, s2, s3, s4, s5⟩ (fun h => h) (fun h => h)
      refine hK.out _ _ (fun _ => hS1) ?_
      simp only [Act.put, List.setIfInBounds_toArray, List.set_cons_zero, List.set_cons_succ]
      refine seqF_eff (by rfl) (by rfl) fun K hK => ?_
      refine wp_callC 25 #[.int .i64 sec] (by go_simp) (R := fun v w' => ∃ l : Nat × Nat, v = .pointer (some ⟨l.1, 0, none⟩) ∧ RD w' l (new sec) ∧ (∀ q, rhas l q → y1.heap.size ≤ q) ∧ Fr (fun _ => False) y1 w') ((rnew_calls sec y1).mono (by
        rintro e w' ⟨bl, rfl, hbl, hra, hf⟩
        obtain ⟨l, h1, h2, h3⟩ := RD.of hra
        exact ⟨_, rfl, l, by rw [h1], h3, fun q hq => by rcases hq with rfl | rfl <;> omega, hf⟩)) ?_
      rintro v y2 ⟨l, rfl, hrd, hlq, g2⟩
      have hS2 := cells7 g2 hS1 (fun h => h) (fun h => h)
      have HRD := Lib.hid hrd; clear hrd
      have HLQ := Lib.hid hlq; clear hlq
      refine hK.out _ _ (fun _ => hS2) ?_
      simp only [Act.put, List.setIfInBounds_toArray, List.set_cons_zero, List.set_cons_succ]
      refine seqF_eff (by rfl) (by rfl) fun K hK => ?_
      unfold Oper.wp
      go_simp
      obtain ⟨y3, hy3⟩ : ∃ y3, y3 = y2.alloc (.cells #[.pointer (some ⟨l.1, 0, none⟩)] 43) := ⟨_, rfl⟩
      have b3 : y3.heap[y2.heap.size]? = some (.cells #[.pointer (some ⟨l.1, 0, none⟩)] 43 (0, 0)) := by rw [hy3]; exact heap_alloc_new y2 _
      have g3 : Fr (fun _ => False) y2 y3 := by rw [hy3]; exact (Fr.refl _ _).alloc _
      rw [← hy3]
      clear hy3
      have hS3 := cells7 g3 hS2 (fun h => h) (fun h => h)
      refine hK.out _ _ (fun _ => hS3) ?_
      refine seqF_eff (by rfl) (by rfl) fun K hK => ?_
      have g03 : Fr (fun _ => False) wr y3 := (g1.trans g2).trans g3
      have HB3 := Lib.hid (HB.out.keep g03)
      have hw0 : w3.heap.size ≤ y3.heap.size := Nat.le_trans HBASE.out g03.size
      refine wp_append_el _ _ 107 rfl w3.heap.size mt107 hi4 hy40 hy41 hy42 rfl (by decide) rfl HB3.out.brow rfl b3 rfl (by simp [Value.oneCell']) (by unfold maxLen; omega) (by omega) hw0 ?_
      intro v' y4 o4 gr4
      have g4 : Fr (fun q => some q = bv.ownBlock) y3 y4 := Fr.of_grown gr4
      have hnc : ¬ some tb = bv.ownBlock := own_not HB3.out.brow HB3.out.head (by decide)
      have hnx : ¬ some w.heap.size = bv.ownBlock := fun he => by have := (own_both HB3.out.brow _ he).1; omega
      have hS4 := cells7 g4 hS3 hnc hnx
      have HH4 := Lib.hid ((g4.block _ (lt_of_blk HB3.out.head) hnc).trans HB3.out.head)
      have O4 := Lib.hid o4; clear o4
      refine hK.out _ _ (fun _ => hS4) ?_
      simp only [Act.put, List.setIfInBounds_toArray, List.set_cons_zero, List.set_cons_succ]
      repeat (refine seqF_read (v := ?_) (by rfl) (by rfl) hS4 ?_ ?_; rotate_left; (focus (intro W hS; (try dsimp only at hS); obtain ⟨a0, a1, a2, a3, a4, a5, a6⟩ := hS; go_simp; try with_reducible rfl)); simp only [Act.put, List.setIfInBounds_toArray, List.set_cons_zero, List.set_cons_succ])
      refine seqF_eff (by rfl) (by rfl) fun K hK => ?_
      have hv1 : v'.oneCell' = true := by
        obtain ⟨-, h2 | ⟨gb, vc, cur', h2, -⟩⟩ := O4.out
        · rw [h2.1]; rfl
        · rw [h2]; rfl
      refine wp_store1 107 _ _ rfl (v := v') rfl rfl hv1 (by kernel_rfl) HH4.out (by simp [rshC]) ?_
      intro y5 b5 g5 z5
      have B5 := Lib.hid b5; clear b5 z5
      refine hK.out _ _ (fun h => absurd rfl h) ?_
      refine seqF_nil ?_
      have hbt := HB.out.bay g03 (l := l) (by rw [← HSEC.out]; exact HRD.out.fr g3 (fun _ _ h => h) (noBytes_no _)) (fun q hq => Nat.le_trans g1.size (HLQ.out q hq)) g4 O4.out g5 B5.out
      have HBT := Lib.hid hbt; clear hbt
      clear hK hS hS1 hS2 hS3 hS4 c6 s0 s1 s2 s3 s4 s5 g1 g2 g3 g4 g5 gr4 hnc hnx g03 hv1 b3 HH4 HB3 B5 hw0
      have c7 : y5.cell? ⟨tb, 7, none⟩ = some sv := cell_of_blk HBT.out.head
      have hsz5 := (fr_below' HBT.out.fr).size
      go_wp2_with (first
        | (at_builtin; refine im_append_g rfl _ _ 46 rfl w3.heap.size mt46r hi3 hy30 hy31 hy32 rfl (by decide) rfl (row_keep' HBT.out.srow ((Fr.refl (fun _ => False) _).alloc _)) rfl (heap_alloc_new _ _) rfl (by simp [Value.oneCell']) (by unfold maxLen; omega) (by omega) (by simp; omega) ?_; intro v7 y7 o7 f7; have HA7 := Lib.hid (HBT.out.keep ((Fr.refl (fun _ => False) y5).alloc (.cells #[.int .i64 1] 3))); have hv7 : v7.oneCell' = true := (by obtain ⟨-, h2 | ⟨gb, vc, cur', h2, -⟩⟩ := o7 <;> first | (rw [h2.1]; rfl) | (rw [h2]; rfl)); have HH7 := Lib.hid ((f7.block _ (lt_of_blk HA7.out.head) (own_not HA7.out.srow HA7.out.head (by decide))).trans HA7.out.head); have O7 := Lib.hid o7; clear o7)
        | (refine im_store1 (j := 7) rfl 46 _ _ rfl (b := tb) (v := v7) rfl rfl hv7 (by kernel_rfl) HH7.out (by simp [rshC]) ?_; intro y8 b8 f8 z8; have B8 := Lib.hid b8; clear b8; have Z8 := Lib.hid z8; clear z8))
      have hb8 := HBT.out.sts ((Fr.refl (fun _ => False) y5).alloc (.cells #[.int .i64 1] 3)) f7 O7.out f8 B8.out
      have HB8 := Lib.hid hb8; clear hb8
      have hn : gk + k = N := HM.out
      go_roundg (gk - 1)
      case measure => omega
      case rel => exact ⟨k + 1, _, _, _, by omega, by go_num, HB8.out⟩
    · have hkn : k = N := by have := HM.out; omega
      subst hkn
      clear hk
      go_wp2_with fail
      go_ret2
      refine ⟨tb, rfl, ?_, F3.out.trans hfw⟩
      exact (HB.out.done HV.out.1 (by rw [← HSEC.out]; exact hs) HV.out.2.symm).mono (fun q hq => ⟨Nat.le_trans F3.out.size hq.1, hq.2⟩) (fun q hq => hq.2)
end Go.Proofs.Ytmbkmfpnjpkakaa
