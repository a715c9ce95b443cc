/- The program's shelf in memory: the disks, each with its own blocks; the shelf's block, its rows of bays and images, and the set of blocks that it owns. -/
import Derived.Test.YtmbkmfpnjpkakaaS0
import Derived.Test.YtmbkmfpnjpkakaaD9
import Derived.Test.YtmbkmfpnjpkakaaA6
namespace Go.Im
/-- A frame that turns nothing is any frame. -/
theorem Fr.no {S : Nat → Prop} {w w' : World} (h : Fr (fun _ => False) w w') : Fr S w w' := h.mono (fun _ _ h => h.elim)
end Go.Im
namespace Go.Proofs.Ytmbkmfpnjpkakaa
open Go.RowKit Go.Im Go.Dsk0

/-- Where a disk lies. -/
structure Loc where
  g : Nat
  bd : Nat
  bc : Nat
  ba : Nat
def Loc.foot (L : Loc) : Nat → Prop := Go.Proofs.Ytmbkmfpnjpkakaa.foot L.bd L.bc L.ba
def Loc.has (L : Loc) (q : Nat) : Prop := q = L.g ∨ L.foot q
def Loc.ptr (L : Loc) : Value := .pointer (some ⟨L.g, 0, none⟩)

/-- A disk at its place, all its blocks existing. -/
structure DK (w : World) (L : Loc) (D : Dsk) : Prop where
  disk : DiskAt w L.g L.bd L.bc L.ba D
  lt : L.bd < w.heap.size
  nil : D = [] → L.bd = L.bc

theorem DK.fr {w w' : World} {L : Loc} {D : Dsk} (h : DK w L D) {S : Nat → Prop} (f : Fr S w w') (hS : ∀ q, L.has q → ¬ S q) : DK w' L D :=
  ⟨h.disk.fr f (hS _ (.inl rfl)) (fun _ => hS _ (.inr (foot_d _ _ _))) (hS _ (.inr (foot_c _ _ _))) (hS _ (.inr (foot_a _ _ _))), Nat.lt_of_lt_of_le h.lt f.size, h.nil⟩
theorem DK.keep {w w' : World} {L : Loc} {D : Dsk} (h : DK w L D) (f : Fr (fun _ => False) w w') : DK w' L D := h.fr f (fun _ _ h => h)
theorem DK.kind {w : World} {L : Loc} {D : Dsk} (h : DK w L D) {q : Nat} (hq : L.foot q) : (∃ es c, w.heap[q]? = some (.map es c)) ∨ ∃ cs, w.heap[q]? = some (.cells cs 126 (0, 0)) := by
  obtain ⟨es, c, hc, -⟩ := h.disk.cache
  obtain ⟨es2, c2, ha, -⟩ := h.disk.armed
  rcases hq with rfl | rfl | rfl
  · by_cases hD : D = []
    · rw [h.nil hD]; exact .inl ⟨es, c, hc⟩
    · obtain ⟨av, cap, -, -, hd⟩ := h.disk.head
      obtain ⟨-, cs, hb, -⟩ := hd.resolve_left hD
      exact .inr ⟨cs, hb⟩
  · exact .inl ⟨es, c, hc⟩
  · exact .inl ⟨es2, c2, ha⟩
theorem DK.lthas {w : World} {L : Loc} {D : Dsk} (h : DK w L D) {q : Nat} (hq : L.has q) : q < w.heap.size := by
  rcases hq with rfl | hq
  · exact h.disk.glt
  · rcases h.kind hq with ⟨es, c, hb⟩ | ⟨cs, hb⟩ <;> exact lt_of_blk hb
/-- A block of another kind is none of the disk's. -/
theorem DK.not {w : World} {L : Loc} {D : Dsk} (h : DK w L D) {b : Nat} {cs : Array Value} {t : TypeId} {fr : Nat × Nat} (hb : w.heap[b]? = some (.cells cs t fr)) (h1 : t ≠ 126) (h2 : t ≠ 119) : ¬ L.has b := by
  rintro (rfl | hq)
  · obtain ⟨av, cap, hg, -⟩ := h.disk.head
    rw [hb] at hg; injection hg with hg; injection hg with _ hg _; exact h2 hg
  · rcases h.kind hq with ⟨es, c, hk⟩ | ⟨cs', hk⟩
    · rw [hb] at hk; cases hk
    · rw [hb] at hk; injection hk with hk; injection hk with _ hk _; exact h1 hk
/-- The disk behind an operation. -/
theorem DK.turn {w w' : World} {L : Loc} {D D' : Dsk} (h : DK w L D) (d : DiskAt w' L.g L.bd L.bc L.ba D') (hl : D'.length = D.length) (hs : w.heap.size ≤ w'.heap.size) : DK w' L D' :=
  ⟨d, Nat.lt_of_lt_of_le h.lt hs, fun e => h.nil (List.eq_nil_of_length_eq_zero (by rw [← hl, e]; rfl))⟩
/-- A disk, its blocks taken to exist. -/
theorem DK.of {w : World} {g bd bc ba : Nat} {D : Dsk} (h : DiskAt w g bd bc ba D) (B : Nat) (h1 : B ≤ g) (h2 : B ≤ bd) (h3 : B ≤ bc) (h4 : B ≤ ba) : ∃ L : Loc, L.g = g ∧ DK w L D ∧ ∀ q, L.has q → B ≤ q := by
  by_cases hD : D = []
  · subst hD
    obtain ⟨a1, ⟨av, cap, a2, a3, a4⟩, a5, a6, a7⟩ := h
    refine ⟨⟨g, bc, bc, ba⟩, rfl, ⟨⟨a1, ⟨av, cap, a2, a3, .inl rfl⟩, a5, a6, a7⟩, a5.lt, fun _ => rfl⟩, ?_⟩
    rintro q (rfl | rfl | rfl | rfl) <;> assumption
  · refine ⟨⟨g, bd, bc, ba⟩, rfl, ⟨h, ?_, fun e => absurd e hD⟩, ?_⟩
    · obtain ⟨_, _, _, _, hd⟩ := h.head
      rcases hd with hd | ⟨_, cs, hb, _⟩
      · exact absurd hd hD
      · exact lt_of_blk hb
    · rintro q (rfl | rfl | rfl | rfl) <;> assumption

def Apart (L M : Loc) : Prop := ∀ q, L.has q → ¬ M.has q
theorem Apart.symm {L M : Loc} (h : Apart L M) : Apart M L := fun q h1 h2 => h q h2 h1

def bayC (x : Loc × Shf0.Bay) : List Value := [x.1.ptr, .int .i64 x.2.st]
def imC (x : Loc × Dsk) : Value := x.1.ptr
/-- The cells of a configuration, and of a shelf. -/
def cfgC (c : Shf0.Cfg) : List Value := [.int .i64 c.disks, .int .i64 c.racks, .int .i64 c.rows, .int .i64 c.spare, .int .i64 c.log, .int .i64 c.image]
def cfgV (c : Shf0.Cfg) : Value := .agg #[.int .i64 c.disks, .int .i64 c.racks, .int .i64 c.rows, .int .i64 c.spare, .int .i64 c.log, .int .i64 c.image]
def placeV (p : Shf0.Place) : Value := .agg #[.int .i64 p.disk, .int .i64 p.area, .int .i64 p.index]
def shelfC (S : Shf0.Shelf) (bv iv : Value) : Array Value :=
  #[.int .i64 S.cfg.disks, .int .i64 S.cfg.racks, .int .i64 S.cfg.rows, .int .i64 S.cfg.spare, .int .i64 S.cfg.log, .int .i64 S.cfg.image, bv, iv, .bool S.off, .bool S.fused, .int .i64 S.left]

/-- The shelf in memory, its parts named. -/
structure ShelfIn (w : World) (O : Nat → Prop) (s : Nat) (S : Shf0.Shelf) (bs : List (Loc × Shf0.Bay)) (im : List (Loc × Dsk)) (bv iv : Value) : Prop where
  ok : Shf0.Ok S
  eb : S.bays = bs.map (·.2)
  ei : S.images = im.map (·.2)
  head : w.heap[s]? = some (.cells (shelfC S bv iv) 104 (0, 0))
  rb : w.ownsRow 0 106 2 bv bs.length (bs.flatMap bayC)
  ri : w.ownsRow 0 41 1 iv im.length (im.map imC)
  kb : ∀ x ∈ bs, DK w x.1 x.2.D
  ki : ∀ x ∈ im, DK w x.1 x.2
  apart : (bs.map (·.1) ++ im.map (·.1)).Pairwise Apart
  os : O s
  ob : ∀ q, some q = bv.ownBlock → O q
  oi : ∀ q, some q = iv.ownBlock → O q
  od : ∀ L ∈ bs.map (·.1) ++ im.map (·.1), ∀ q, L.has q → O q
  olt : ∀ q, O q → q < w.heap.size
/-- The shelf in memory. -/
def ShelfAt (w : World) (O : Nat → Prop) (s : Nat) (S : Shf0.Shelf) : Prop := ∃ bs im bv iv, ShelfIn w O s S bs im bv iv
/-- What it owns behind a step: what it owned, and what is new. -/
def grow (O : Nat → Prop) (w w' : World) : Nat → Prop := fun q => O q ∨ (w.heap.size ≤ q ∧ q < w'.heap.size)

theorem bayC_get : ∀ (bs : List (Loc × Shf0.Bay)) (i u : Nat), u < 2 → (bs.flatMap bayC)[i * 2 + u]? = (bs[i]?).bind fun d => (bayC d)[u]?
  | [], i, u, _ => by simp
  | d :: vs, 0, u, hu => by
    rw [List.flatMap_cons, Nat.zero_mul, Nat.zero_add, List.getElem?_append_left (by simpa [bayC] using hu)]; rfl
  | d :: vs, i + 1, u, hu => by
    rw [List.flatMap_cons, List.getElem?_append_right (by simp [bayC]; omega)]
    have : (i + 1) * 2 + u - (bayC d).length = i * 2 + u := by simp [bayC]; omega
    rw [this, bayC_get vs i u hu]; rfl
theorem bayC_len (bs : List (Loc × Shf0.Bay)) : (bs.flatMap bayC).length = bs.length * 2 := by
  induction bs with
  | nil => rfl
  | cons d vs ih => rw [List.flatMap_cons, List.length_append, ih]; simp [bayC]; omega

theorem ShelfIn.pos {w : World} {O : Nat → Prop} {s : Nat} {S : Shf0.Shelf} {bs : List (Loc × Shf0.Bay)} {im : List (Loc × Dsk)} {bv iv : Value} (h : ShelfIn w O s S bs im bv iv) : 0 < bs.length ∧ bs.length ≤ 64 ∧ bs.length = S.bays.length := by
  have h1 := h.ok.num
  have h2 := h.ok.cfg.1
  have h3 : S.bays.length = bs.length := by rw [h.eb]; simp
  omega

/-- The bays' row opened. -/
theorem ShelfIn.open_ {w : World} {O : Nat → Prop} {s : Nat} {S : Shf0.Shelf} {bs : List (Loc × Shf0.Bay)} {im : List (Loc × Dsk)} {bv iv : Value} (h : ShelfIn w O s S bs im bv iv) :
    ∃ vb cap cur, bv = .slice (some ⟨vb, 0, none⟩) bs.length cap ∧ w.heap[vb]? = some (.cells cur 106 (0, 0)) ∧ bs.length * 2 ≤ cur.size ∧ O vb ∧
      ∀ (i : Nat) (x : Loc × Shf0.Bay), bs[i]? = some x → w.cell? ⟨vb, i * 2, none⟩ = some x.1.ptr ∧ w.cell? ⟨vb, i * 2 + 1, none⟩ = some (.int .i64 x.2.st) := by
  obtain ⟨hp, -, -⟩ := h.pos
  obtain ⟨h1, h2 | ⟨vb, cap, cur, h2, h3, h4, h5, h6, h7, h8⟩⟩ := h.rb
  · omega
  · refine ⟨vb, cap, cur, h2, h4, by omega, h.ob vb (by rw [h2]; rfl), fun i x hx => ?_⟩
    have hi : i < bs.length := (List.getElem?_eq_some_iff.1 hx).1
    have hc : ∀ u, u < 2 → cur[i * 2 + u]? = (bayC x)[u]? := fun u hu => by
      have : (cur.toList.take (bs.length * 2))[i * 2 + u]? = (bayC x)[u]? := by rw [h8, bayC_get bs i u hu, hx]; rfl
      rw [List.getElem?_take_of_lt (by omega)] at this
      simpa using this
    exact ⟨(cell_of_blk h4).trans (hc 0 (by omega)), (cell_of_blk h4).trans (hc 1 (by omega))⟩

/-- The shelf stays while others turn. -/
theorem ShelfIn.fr {w w' : World} {O : Nat → Prop} {s : Nat} {S : Shf0.Shelf} {bs : List (Loc × Shf0.Bay)} {im : List (Loc × Dsk)} {bv iv : Value} (h : ShelfIn w O s S bs im bv iv) {T : Nat → Prop} (f : Fr T w w') (hT : ∀ q, O q → ¬ T q) : ShelfIn w' O s S bs im bv iv := by
  have hrow : ∀ {base : Nat} {e : TypeId} {size : Nat} {v : Value} {n : Nat} {xs : List Value}, w.ownsRow base e size v n xs → (∀ q, some q = v.ownBlock → O q) → w'.ownsRow base e size v n xs := fun {base e size v n xs} hr ho => by
    obtain ⟨h1, h2 | ⟨g, cap, cur, h2, h3, h4, h5⟩⟩ := hr
    · exact ⟨h1, .inl h2⟩
    · have hlt := lt_of_blk h4
      exact ⟨h1, .inr ⟨g, cap, cur, h2, h3, (f.block g hlt (hT g (ho g (by rw [h2]; rfl)))).trans h4, h5⟩⟩
  exact ⟨h.ok, h.eb, h.ei, (f.block s (lt_of_blk h.head) (hT s h.os)).trans h.head, hrow h.rb h.ob, hrow h.ri h.oi,
    fun x hx => (h.kb x hx).fr f fun q hq => hT q (h.od x.1 (by simp only [List.mem_append, List.mem_map]; exact .inl ⟨x, hx, rfl⟩) q hq),
    fun x hx => (h.ki x hx).fr f fun q hq => hT q (h.od x.1 (by simp only [List.mem_append, List.mem_map]; exact .inr ⟨x, hx, rfl⟩) q hq),
    h.apart, h.os, h.ob, h.oi, h.od, fun q hq => Nat.lt_of_lt_of_le (h.olt q hq) f.size⟩
theorem ShelfAt.fr {w w' : World} {O : Nat → Prop} {s : Nat} {S : Shf0.Shelf} (h : ShelfAt w O s S) {T : Nat → Prop} (f : Fr T w w') (hT : ∀ q, O q → ¬ T q) : ShelfAt w' O s S := by
  obtain ⟨bs, im, bv, iv, h⟩ := h
  exact ⟨bs, im, bv, iv, h.fr f hT⟩
theorem ShelfAt.keep {w w' : World} {O : Nat → Prop} {s : Nat} {S : Shf0.Shelf} (h : ShelfAt w O s S) (f : Fr (fun _ => False) w w') : ShelfAt w' O s S := h.fr f fun _ _ h => h
theorem ShelfAt.olt {w : World} {O : Nat → Prop} {s : Nat} {S : Shf0.Shelf} (h : ShelfAt w O s S) {q : Nat} (hq : O q) : q < w.heap.size := by
  obtain ⟨bs, im, bv, iv, h⟩ := h
  exact h.olt q hq
/-- It may own more. -/
theorem ShelfAt.mono {w : World} {O O' : Nat → Prop} {s : Nat} {S : Shf0.Shelf} (h : ShelfAt w O s S) (hO : ∀ q, O q → O' q) (hl : ∀ q, O' q → q < w.heap.size) : ShelfAt w O' s S := by
  obtain ⟨bs, im, bv, iv, h⟩ := h
  exact ⟨bs, im, bv, iv, h.ok, h.eb, h.ei, h.head, h.rb, h.ri, h.kb, h.ki, h.apart, hO _ h.os, fun q hq => hO _ (h.ob q hq), fun q hq => hO _ (h.oi q hq), fun L hL q hq => hO _ (h.od L hL q hq), hl⟩
theorem ShelfAt.grow {w w' : World} {O : Nat → Prop} {s : Nat} {S : Shf0.Shelf} (h : ShelfAt w' O s S) : ShelfAt w' (grow O w w') s S := h.mono (fun _ hq => .inl hq) fun _ hq => hq.elim (fun h' => h.olt h') (·.2)

end Go.Proofs.Ytmbkmfpnjpkakaa
