/- The reference shelf in memory, over the same plain shelf; its Config, Up and State. -/
import Derived.Test.YtmbkmfpnjpkakaaW2
import Derived.Test.YtmbkmfpnjpkakaaE8
namespace Go.Proofs.Ytmbkmfpnjpkakaa
open Go.RowKit Go.Im Go.Dsk0

/-- The fuse as the reference keeps it. -/
def leftR (S : Shf0.Shelf) : Int := if S.fused = true then S.left else -1
def rshC (S : Shf0.Shelf) (bv sv iv : Value) : Array Value := #[.int .i64 S.cfg.disks, .int .i64 S.cfg.racks, .int .i64 S.cfg.rows, .int .i64 S.cfg.spare, .int .i64 S.cfg.log, .int .i64 S.cfg.image, bv, sv, iv, .bool (!S.off), .int .i64 (leftR S)]
def ptrC (l : Nat × Nat) : Value := .pointer (some ⟨l.1, 0, none⟩)
def stC (b : Shf0.Bay) : Value := .int .i64 b.st

/-- A reference disk with its two blocks. -/
structure RD (w : World) (l : Nat × Nat) (D : Dsk) : Prop where
  at_ : RefAt w l.1 l.2 D
  nil : D = [] → l.2 = l.1
def rhas (l : Nat × Nat) (q : Nat) : Prop := q = l.1 ∨ q = l.2
def RApart (a b : Nat × Nat) : Prop := ∀ q, rhas a q → ¬ rhas b q

theorem RD.blk {w : World} {l : Nat × Nat} {D : Dsk} (h : RD w l D) {q : Nat} (hq : rhas l q) : ∃ cs ty, w.heap[q]? = some (.cells cs ty (0, 0)) ∧ (ty = 122 ∨ ty = 124) := by
  obtain ⟨hk, av, cap, h1, h2, h3⟩ := h.at_
  rcases hq with rfl | rfl
  · exact ⟨_, _, h1, .inl rfl⟩
  · rcases h3 with h3 | ⟨-, cs, h4, -⟩
    · rw [h.nil h3]; exact ⟨_, _, h1, .inl rfl⟩
    · exact ⟨_, _, h4, .inr rfl⟩
theorem RD.fr {w w' : World} {l : Nat × Nat} {D : Dsk} (h : RD w l D) {T : Nat → Prop} (f : Fr T w w') (hT : ∀ q, rhas l q → ¬ T q) (hb : noBytes w T) : RD w' l D :=
  ⟨h.at_.fr f (hT _ (.inl rfl)) (fun _ => hT _ (.inr rfl)) hb, h.nil⟩
theorem RD.lt {w : World} {l : Nat × Nat} {D : Dsk} (h : RD w l D) {q : Nat} (hq : rhas l q) : q < w.heap.size := by
  obtain ⟨cs, ty, h1, -⟩ := h.blk hq
  exact lt_of_blk h1
theorem noBytes_no (w : World) : noBytes w (fun _ => False) := fun _ _ _ _ h => h

/-- The reference shelf, opened. -/
structure RShelfIn (w : World) (R : Nat → Prop) (t : Nat) (S : Shf0.Shelf) (ds im : List (Nat × Nat)) (bv sv iv : Value) : Prop where
  ok : Shf0.Ok S
  head : w.heap[t]? = some (.cells (rshC S bv sv iv) 109 (0, 0))
  brow : w.ownsRow 0 43 1 bv S.bays.length (ds.map ptrC)
  srow : w.ownsRow 0 3 1 sv S.bays.length (S.bays.map stC)
  irow : w.ownsRow 0 43 1 iv S.images.length (im.map ptrC)
  two : ∀ q, some q = bv.ownBlock → ¬ some q = iv.ownBlock
  kb : ∀ (i : Nat) (l : Nat × Nat) (b : Shf0.Bay), ds[i]? = some l → S.bays[i]? = some b → RD w l b.D
  ki : ∀ (i : Nat) (l : Nat × Nat) (D : Dsk), im[i]? = some l → S.images[i]? = some D → RD w l D
  apart : (ds ++ im).Pairwise RApart
  rt : R t
  rb : ∀ q, some q = bv.ownBlock → R q
  rs : ∀ q, some q = sv.ownBlock → R q
  ri : ∀ q, some q = iv.ownBlock → R q
  rd : ∀ l ∈ ds ++ im, ∀ q, rhas l q → R q
  lt : ∀ q, R q → q < w.heap.size
/-- A reference shelf in memory; R: what it owns, bytes apart. -/
def RShelfAt (w : World) (R : Nat → Prop) (t : Nat) (S : Shf0.Shelf) : Prop := ∃ ds im bv sv iv, RShelfIn w R t S ds im bv sv iv

section
variable {w w' : World} {R : Nat → Prop} {t : Nat} {S : Shf0.Shelf} {ds im : List (Nat × Nat)} {bv sv iv : Value}
theorem own_lt {base : Nat} {e : TypeId} {size : Nat} {v : Value} {n : Nat} {xs : List Value} (h : w.ownsRow base e size v n xs) {q : Nat} (hq : some q = v.ownBlock) : ∃ cs, w.heap[q]? = some (.cells cs e (0, 0)) := by
  obtain ⟨-, h2 | ⟨g, cap, cur, h2, -, h4, -⟩⟩ := h
  · rw [h2.1] at hq; cases hq
  · rw [h2] at hq; injection hq with hq; subst hq; exact ⟨_, h4⟩
theorem row_blk {base : Nat} {e : TypeId} {size : Nat} {v : Value} {n : Nat} {xs : List Value} (h : w.ownsRow base e size v n xs) {T : Nat → Prop} (f : Fr T w w') (hT : ∀ q, some q = v.ownBlock → ¬ T q) : w'.ownsRow base e size v n xs := by
  obtain ⟨h1, h2 | ⟨g, cap, cur, h2, h3, h4, h5⟩⟩ := h
  · exact ⟨h1, .inl h2⟩
  · exact ⟨h1, .inr ⟨g, cap, cur, h2, h3, (f.block g (lt_of_blk h4) (hT g (by rw [h2]; rfl))).trans h4, h5⟩⟩
theorem RShelfIn.fr (h : RShelfIn w R t S ds im bv sv iv) {T : Nat → Prop} (f : Fr T w w') (hT : ∀ q, R q → ¬ T q) (hb : noBytes w T) : RShelfIn w' R t S ds im bv sv iv where
  ok := h.ok
  head := (f.block t (lt_of_blk h.head) (hT _ h.rt)).trans h.head
  brow := row_blk h.brow f fun q hq => hT q (h.rb q hq)
  srow := row_blk h.srow f fun q hq => hT q (h.rs q hq)
  irow := row_blk h.irow f fun q hq => hT q (h.ri q hq)
  two := h.two
  kb := fun i l b h1 h2 => (h.kb i l b h1 h2).fr f (fun q hq => hT q (h.rd l (List.mem_append.2 (.inl (List.mem_of_getElem? h1))) q hq)) hb
  ki := fun i l D h1 h2 => (h.ki i l D h1 h2).fr f (fun q hq => hT q (h.rd l (List.mem_append.2 (.inr (List.mem_of_getElem? h1))) q hq)) hb
  apart := h.apart
  rt := h.rt
  rb := h.rb
  rs := h.rs
  ri := h.ri
  rd := h.rd
  lt := fun q hq => Nat.lt_of_lt_of_le (h.lt q hq) f.size
theorem RShelfAt.fr (h : RShelfAt w R t S) {T : Nat → Prop} (f : Fr T w w') (hT : ∀ q, R q → ¬ T q) (hb : noBytes w T) : RShelfAt w' R t S := by
  obtain ⟨ds, im, bv, sv, iv, h⟩ := h
  exact ⟨ds, im, bv, sv, iv, h.fr f hT hb⟩
theorem RShelfAt.keep (h : RShelfAt w R t S) (f : Fr (fun _ => False) w w') : RShelfAt w' R t S := h.fr f (fun _ _ h => h) (noBytes_no w)
theorem RShelfAt.ok (h : RShelfAt w R t S) : Shf0.Ok S := by
  obtain ⟨ds, im, bv, sv, iv, h⟩ := h; exact h.ok
theorem RShelfAt.mono {R' : Nat → Prop} (h : RShelfAt w R t S) (hO : ∀ q, R q → R' q) (hl : ∀ q, R' q → q < w.heap.size) : RShelfAt w R' t S := by
  obtain ⟨ds, im, bv, sv, iv, h⟩ := h
  exact ⟨ds, im, bv, sv, iv, h.ok, h.head, h.brow, h.srow, h.irow, h.two, h.kb, h.ki, h.apart, hO _ h.rt, fun q hq => hO _ (h.rb q hq), fun q hq => hO _ (h.rs q hq), fun q hq => hO _ (h.ri q hq), fun l hl q hq => hO _ (h.rd l hl q hq), hl⟩
theorem RShelfIn.pos (h : RShelfIn w R t S ds im bv sv iv) : 0 < S.bays.length ∧ S.bays.length ≤ 64 ∧ (S.bays.length : Int) = S.cfg.disks := by
  have h1 := h.ok.num
  have h2 := h.ok.cfg.1
  omega
theorem row1 {base : Nat} {e : TypeId} {v : Value} {n : Nat} {xs : List Value} (h : w.ownsRow base e 1 v n xs) (hn : 0 < n) : ∃ g cap cur, v = .slice (some ⟨g, 0, none⟩) n cap ∧ w.heap[g]? = some (.cells cur e (0, 0)) ∧ n ≤ cur.size ∧ ∀ (i : Nat) (x : Value), xs[i]? = some x → w.cell? ⟨g, i, none⟩ = some x := by
  obtain ⟨h1, h2 | ⟨g, cap, cur, h2, h3, h4, h5, h6, h7, h8⟩⟩ := h
  · omega
  · refine ⟨g, cap, cur, h2, h4, by omega, fun i x hx => ?_⟩
    have hi : i < xs.length := (List.getElem?_eq_some_iff.1 hx).1
    have : (cur.toList.take (n * 1))[i]? = some x := by rw [h8, hx]
    rw [List.getElem?_take_of_lt (by omega)] at this
    rw [cell_of_blk h4]
    simpa using this

theorem rup_calls (h : RShelfAt w R t S) : Calls Try.prog 69 #[.pointer (some ⟨t, 0, none⟩)] w fun e w' => e = .returned (.bool (!S.off)) ∧ w = w' := by
  obtain ⟨ds, im, bv, sv, iv, h⟩ := h
  have c9 : w.cell? ⟨t, 9, none⟩ = some (.bool (!S.off)) := cell_of_blk h.head
  clear h
  go_enter Try.func69, Try.ntmps69
  go_wp2_with fail
  go_ret
  exact ⟨rfl, rfl⟩

theorem rstate_calls (h : RShelfAt w R t S) (d : Int) : Calls Try.prog 70 #[.pointer (some ⟨t, 0, none⟩), .int .i64 d] w fun e w' => e = .returned (.int .i64 (Shf0.state S d)) ∧ w = w' := by
  obtain ⟨ds, im, bv, sv, iv, h⟩ := h
  obtain ⟨hp1, hp2, -⟩ := h.pos
  obtain ⟨n, hn⟩ : ∃ n, n = S.bays.length := ⟨_, rfl⟩
  obtain ⟨g, cap, cur, hsv, -, -, hcell⟩ := row1 h.srow hp1
  have c7 : w.cell? ⟨t, 7, none⟩ = some (.slice (some ⟨g, 0, none⟩) n cap) := by rw [hn, ← hsv]; exact cell_of_blk h.head
  have hst : Shf0.state S d = if 0 ≤ d ∧ d < n then ((S.bays[d.toNat]?).map (·.st)).getD 0 else 0 := by rw [hn]; rfl
  rw [← hn] at hp1 hp2
  have HST := Lib.hid hst; clear hst
  have HC := Lib.hid hcell; clear hcell
  clear h hsv
  by_cases h0 : 0 ≤ d
  · by_cases h1 : d < n
    · obtain ⟨k, rfl⟩ : ∃ k : Nat, d = k := ⟨d.toNat, by omega⟩
      obtain ⟨x, hx⟩ : ∃ x, S.bays[k]? = some x := ⟨_, List.getElem?_eq_getElem (by omega)⟩
      have c8 : w.cell? ⟨g, k, none⟩ = some (.int .i64 x.st) := HC.out k (stC x) (by rw [List.getElem?_map, hx]; rfl)
      have he : Shf0.state S k = x.st := by rw [HST.out, if_pos ⟨h0, h1⟩, Int.toNat_natCast, hx]; rfl
      have HE := Lib.hid he; clear he hx hn
      go_enter Try.func70, Try.ntmps70
      go_wp2_with fail
      go_ret
      exact ⟨by rw [HE.out]; rfl, rfl⟩
    · have he : Shf0.state S d = 0 := by rw [HST.out, if_neg (by omega)]
      have HE := Lib.hid he; clear he hn
      go_enter Try.func70, Try.ntmps70
      go_wp2_with fail
      go_ret
      exact ⟨by rw [HE.out]; rfl, rfl⟩
  · have he : Shf0.state S d = 0 := by rw [HST.out, if_neg (by omega)]
    have HE := Lib.hid he; clear he hn
    go_enter Try.func70, Try.ntmps70
    go_wp2_with fail
    go_ret
    exact ⟨by rw [HE.out]; rfl, rfl⟩
end
end Go.Proofs.Ytmbkmfpnjpkakaa
