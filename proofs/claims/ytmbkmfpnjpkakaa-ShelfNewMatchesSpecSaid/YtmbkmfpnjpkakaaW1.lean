/- The plain shelf, the program's shelf in memory, and contracts: Check, sizes, sectors, State, Up, Config, access, number, step, Write, Flush, Fuse, Read, FlushAll. -/
import Derived.Test.YtmbkmfpnjpkakaaP1
import Derived.IntWalk
import Derived.Test.YtmbkmfpnjpkakaaD9
import Derived.Test.YtmbkmfpnjpkakaaA6

namespace Go.Shf0
open Go.Dsk0

structure Cfg where
  disks : Int
  racks : Int
  rows : Int
  spare : Int
  log : Int
  image : Int

structure Place where
  disk : Int
  area : Int
  index : Int

structure Bay where
  D : Dsk
  st : Int

structure Shelf where
  cfg : Cfg
  bays : List Bay
  images : List Dsk
  off : Bool
  fused : Bool
  left : Int

def sizes (c : Cfg) : List Int := [c.log, c.image, c.image, c.rows]
def sectors (c : Cfg) : Int := c.log + c.image + c.image + c.rows
def valid (c : Cfg) : Prop := (1 ≤ c.disks ∧ c.disks ≤ 64) ∧ (1 ≤ c.racks ∧ c.racks ≤ 8) ∧ (1 ≤ c.rows ∧ c.rows ≤ 4096) ∧ (0 ≤ c.spare ∧ c.spare ≤ c.disks - 1) ∧ (1 ≤ c.log ∧ c.log ≤ 65536) ∧ (1 ≤ c.image ∧ c.image ≤ 65536) ∧ c.disks % c.racks = 0
instance (c : Cfg) : Decidable (valid c) := by unfold valid; infer_instance

/-- A new shelf. -/
def newS (c : Cfg) : Shelf := ⟨c, List.replicate c.disks.toNat ⟨new (sectors c), 1⟩, [], false, false, 0⟩

def state (S : Shelf) (d : Int) : Int := if 0 ≤ d ∧ d < S.bays.length then ((S.bays[d.toNat]?).map (·.st)).getD 0 else 0
def there (S : Shelf) (p : Place) : Prop := state S p.disk ≠ 0 ∧ 1 ≤ p.area ∧ p.area ≤ 4 ∧ 0 ≤ p.index ∧ p.index < ((sizes S.cfg)[(p.area - 1).toNat]?).getD 0
instance (S : Shelf) (p : Place) : Decidable (there S p) := by unfold there; infer_instance
def offset (c : Cfg) (a : Int) : Int := ((sizes c).take (a - 1).toNat).sum
def number (S : Shelf) (p : Place) : Int := if there S p then offset S.cfg p.area + p.index else -1
def access (S : Shelf) (d : Int) : Int := if S.off = true then 14 else if state S d ≠ 1 then 15 else 0

/-- A bay's disk turned; a bay's state. -/
def turnD (S : Shelf) (d : Nat) (f : Dsk → Dsk) : Shelf := { S with bays := S.bays.modify d fun b => { b with D := f b.D } }
def turnS (S : Shelf) (d : Nat) (t : Int) : Shelf := { S with bays := S.bays.modify d fun b => { b with st := t } }
def bayD (S : Shelf) (d : Nat) : Dsk := ((S.bays[d]?).map (·.D)).getD []

/-- A step on a bay. -/
def step (S : Shelf) (d : Int) (f : Dsk → Dsk) : Int × Shelf :=
  if access S d ≠ 0 then (access S d, S)
  else if S.fused = true then (if S.left = 0 then (14, { S with off := true, fused := false }) else (0, turnD { S with left := IntKind.i64.wrap (S.left - 1) } d.toNat f))
  else (0, turnD S d.toNat f)

def write (S : Shelf) (p : Place) (l : List UInt8) : Int × Shelf :=
  if there S p ∧ l.length = 64 then step S p.disk fun D => (Dsk0.write D (number S p) l).2 else (1, S)
def read (S : Shelf) (p : Place) : List UInt8 × Int :=
  if there S p then (if access S p.disk ≠ 0 then ([], access S p.disk) else Dsk0.read (bayD S p.disk.toNat) (number S p)) else ([], 1)
def flush (S : Shelf) (d : Int) : Int × Shelf := if state S d = 0 then (1, S) else step S d Dsk0.flush
def flushFrom (S : Shelf) : Nat → Nat → Int × Shelf
  | _, 0 => (0, S)
  | k, n + 1 => if state S k ≠ 1 then flushFrom S (k + 1) n else if (flush S k).1 ≠ 0 then flush S k else flushFrom (flush S k).2 (k + 1) n
def flushAll (S : Shelf) : Int × Shelf := if S.off = true then (14, S) else flushFrom S 0 S.bays.length
def fuse (S : Shelf) (n : Int) : Shelf := { S with fused := decide (0 ≤ n), left := n }
/-- The bays from a number on, cut by the picks one after the other. -/
def cutBays : List Bay → List Int → List Bay
  | [], _ => []
  | b :: l, ps => if b.st = 1 then { b with D := cut b.D (ps.take (pend b.D).length) } :: cutBays l (ps.drop (pend b.D).length) else b :: cutBays l ps
def mount (S : Shelf) (ps : List Int) : Shelf := { S with bays := cutBays S.bays ps, off := false, fused := false }
def want (S : Shelf) (d : Int) (inn : Bool) (e : Int) : Int := if state S d = 0 then 1 else if decide (state S d = 1) ≠ inn then e else 0
def kill (S : Shelf) (d : Int) : Int × Shelf := if want S d true 15 = 0 then (0, turnS S d.toNat 3) else (want S d true 15, S)
def remove (S : Shelf) (d : Int) : Int × Int × Shelf :=
  if want S d true 15 = 0 then (S.images.length, 0, { S with bays := S.bays.set d.toNat ⟨new 0, 2⟩, images := S.images ++ [cut (bayD S d.toNat) []] }) else (0, want S d true 15, S)
def insert (S : Shelf) (d i : Int) : Int × Shelf :=
  if want S d false 19 = 1 then (1, S) else if i < 0 ∨ S.images.length ≤ i then (12, S)
  else if want S d false 19 = 0 then (0, { S with bays := S.bays.set d.toNat ⟨(S.images[i.toNat]?).getD [], 1⟩ }) else (want S d false 19, S)
def replace (S : Shelf) (d : Int) : Int × Shelf :=
  if want S d false 19 = 0 then (0, { S with bays := S.bays.set d.toNat ⟨new (sectors S.cfg), 1⟩ }) else (want S d false 19, S)
/-- Something done to a sector of a bay in service. -/
def arm (S : Shelf) (p : Place) (ok : Bool) (f : Dsk → Int → Int × Dsk) : Int × Shelf :=
  if there S p ∧ ok = true then (if state S p.disk = 1 then ((f (bayD S p.disk.toNat) (number S p)).1, turnD S p.disk.toNat fun D => (f D (number S p)).2) else (15, S)) else (1, S)
def rot (S : Shelf) (p : Place) (bit : Int) : Int × Shelf := arm S p (decide (0 ≤ bit ∧ bit < 512)) fun D n => Dsk0.rot D n bit
def lose (S : Shelf) (p : Place) : Int × Shelf := arm S p true fun D n => Dsk0.lose D n
def misdirect (S : Shelf) (p q : Place) : Int × Shelf := arm S p (decide (0 ≤ number S q ∧ p.disk = q.disk)) fun D n => Dsk0.misdirect D n (number S q)
def peek (S : Shelf) (p : Place) : List UInt8 × Bool := if there S p ∧ state S p.disk = 1 then ((Dsk0.read (bayD S p.disk.toNat) (number S p)).1, true) else ([], false)

/-- A shelf is well formed: all its disks have as many sectors as the configuration says, but those that stand for an empty bay. -/
structure Ok (S : Shelf) : Prop where
  cfg : valid S.cfg
  sec : sectors S.cfg ≤ 65536
  num : S.bays.length = S.cfg.disks.toNat
  bay : ∀ b ∈ S.bays, Dsk0.Ok b.D
  len : ∀ b ∈ S.bays, b.st ≠ 2 → (b.D.length : Int) = sectors S.cfg
  st : ∀ b ∈ S.bays, b.st = 1 ∨ b.st = 2 ∨ b.st = 3
  img : ∀ D ∈ S.images, Dsk0.Ok D ∧ (D.length : Int) = sectors S.cfg

end Go.Shf0

namespace Go.Im
/-- A frame that turns nothing is any frame. -/
theorem Fr.no {S : Nat → Prop} {w w' : World} (h : Fr (fun _ => False) w w') : Fr S w w' := h.mono (fun _ _ h => h.elim)
end Go.Im
namespace Go.Proofs.Ytmbkmfpnjpkakaa
open Go.RowKit Go.Im Go.Dsk0

/-- Where a disk lies. -/
structure Loc where
  g : Nat
  bd : Nat
  bc : Nat
  ba : Nat
def Loc.foot (L : Loc) : Nat → Prop := Go.Proofs.Ytmbkmfpnjpkakaa.foot L.bd L.bc L.ba
def Loc.has (L : Loc) (q : Nat) : Prop := q = L.g ∨ L.foot q
def Loc.ptr (L : Loc) : Value := .pointer (some ⟨L.g, 0, none⟩)

/-- A disk at its place, all its blocks existing. -/
structure DK (w : World) (L : Loc) (D : Dsk) : Prop where
  disk : DiskAt w L.g L.bd L.bc L.ba D
  lt : L.bd < w.heap.size
  nil : D = [] → L.bd = L.bc

theorem DK.fr {w w' : World} {L : Loc} {D : Dsk} (h : DK w L D) {S : Nat → Prop} (f : Fr S w w') (hS : ∀ q, L.has q → ¬ S q) : DK w' L D :=
  ⟨h.disk.fr f (hS _ (.inl rfl)) (fun _ => hS _ (.inr (foot_d _ _ _))) (hS _ (.inr (foot_c _ _ _))) (hS _ (.inr (foot_a _ _ _))), Nat.lt_of_lt_of_le h.lt f.size, h.nil⟩
theorem DK.keep {w w' : World} {L : Loc} {D : Dsk} (h : DK w L D) (f : Fr (fun _ => False) w w') : DK w' L D := h.fr f (fun _ _ h => h)
theorem DK.kind {w : World} {L : Loc} {D : Dsk} (h : DK w L D) {q : Nat} (hq : L.foot q) : (∃ es c, w.heap[q]? = some (.map es c)) ∨ ∃ cs, w.heap[q]? = some (.cells cs 126 (0, 0)) := by
  obtain ⟨es, c, hc, -⟩ := h.disk.cache
  obtain ⟨es2, c2, ha, -⟩ := h.disk.armed
  rcases hq with rfl | rfl | rfl
  · by_cases hD : D = []
    · rw [h.nil hD]; exact .inl ⟨es, c, hc⟩
    · obtain ⟨av, cap, -, -, hd⟩ := h.disk.head
      obtain ⟨-, cs, hb, -⟩ := hd.resolve_left hD
      exact .inr ⟨cs, hb⟩
  · exact .inl ⟨es, c, hc⟩
  · exact .inl ⟨es2, c2, ha⟩
theorem DK.lthas {w : World} {L : Loc} {D : Dsk} (h : DK w L D) {q : Nat} (hq : L.has q) : q < w.heap.size := by
  rcases hq with rfl | hq
  · exact h.disk.glt
  · rcases h.kind hq with ⟨es, c, hb⟩ | ⟨cs, hb⟩ <;> exact lt_of_blk hb
/-- A block of another kind is none of the disk's. -/
theorem DK.not {w : World} {L : Loc} {D : Dsk} (h : DK w L D) {b : Nat} {cs : Array Value} {t : TypeId} {fr : Nat × Nat} (hb : w.heap[b]? = some (.cells cs t fr)) (h1 : t ≠ 126) (h2 : t ≠ 119) : ¬ L.has b := by
  rintro (rfl | hq)
  · obtain ⟨av, cap, hg, -⟩ := h.disk.head
    rw [hb] at hg; injection hg with hg; injection hg with _ hg _; exact h2 hg
  · rcases h.kind hq with ⟨es, c, hk⟩ | ⟨cs', hk⟩
    · rw [hb] at hk; cases hk
    · rw [hb] at hk; injection hk with hk; injection hk with _ hk _; exact h1 hk
/-- The disk behind an operation. -/
theorem DK.turn {w w' : World} {L : Loc} {D D' : Dsk} (h : DK w L D) (d : DiskAt w' L.g L.bd L.bc L.ba D') (hl : D'.length = D.length) (hs : w.heap.size ≤ w'.heap.size) : DK w' L D' :=
  ⟨d, Nat.lt_of_lt_of_le h.lt hs, fun e => h.nil (List.eq_nil_of_length_eq_zero (by rw [← hl, e]; rfl))⟩
/-- A disk, its blocks taken to exist. -/
theorem DK.of {w : World} {g bd bc ba : Nat} {D : Dsk} (h : DiskAt w g bd bc ba D) (B : Nat) (h1 : B ≤ g) (h2 : B ≤ bd) (h3 : B ≤ bc) (h4 : B ≤ ba) : ∃ L : Loc, L.g = g ∧ DK w L D ∧ ∀ q, L.has q → B ≤ q := by
  by_cases hD : D = []
  · subst hD
    obtain ⟨a1, ⟨av, cap, a2, a3, a4⟩, a5, a6, a7⟩ := h
    refine ⟨⟨g, bc, bc, ba⟩, rfl, ⟨⟨a1, ⟨av, cap, a2, a3, .inl rfl⟩, a5, a6, a7⟩, a5.lt, fun _ => rfl⟩, ?_⟩
    rintro q (rfl | rfl | rfl | rfl) <;> assumption
  · refine ⟨⟨g, bd, bc, ba⟩, rfl, ⟨h, ?_, fun e => absurd e hD⟩, ?_⟩
    · obtain ⟨_, _, _, _, hd⟩ := h.head
      rcases hd with hd | ⟨_, cs, hb, _⟩
      · exact absurd hd hD
      · exact lt_of_blk hb
    · rintro q (rfl | rfl | rfl | rfl) <;> assumption

def Apart (L M : Loc) : Prop := ∀ q, L.has q → ¬ M.has q
theorem Apart.symm {L M : Loc} (h : Apart L M) : Apart M L := fun q h1 h2 => h q h2 h1

def bayC (x : Loc × Shf0.Bay) : List Value := [x.1.ptr, .int .i64 x.2.st]
def imC (x : Loc × Dsk) : Value := x.1.ptr
/-- The cells of a configuration, and of a shelf. -/
def cfgC (c : Shf0.Cfg) : List Value := [.int .i64 c.disks, .int .i64 c.racks, .int .i64 c.rows, .int .i64 c.spare, .int .i64 c.log, .int .i64 c.image]
def cfgV (c : Shf0.Cfg) : Value := .agg #[.int .i64 c.disks, .int .i64 c.racks, .int .i64 c.rows, .int .i64 c.spare, .int .i64 c.log, .int .i64 c.image]
def placeV (p : Shf0.Place) : Value := .agg #[.int .i64 p.disk, .int .i64 p.area, .int .i64 p.index]
def shelfC (S : Shf0.Shelf) (bv iv : Value) : Array Value :=
  #[.int .i64 S.cfg.disks, .int .i64 S.cfg.racks, .int .i64 S.cfg.rows, .int .i64 S.cfg.spare, .int .i64 S.cfg.log, .int .i64 S.cfg.image, bv, iv, .bool S.off, .bool S.fused, .int .i64 S.left]

/-- The shelf in memory, its parts named. -/
structure ShelfIn (w : World) (O : Nat → Prop) (s : Nat) (S : Shf0.Shelf) (bs : List (Loc × Shf0.Bay)) (im : List (Loc × Dsk)) (bv iv : Value) : Prop where
  ok : Shf0.Ok S
  eb : S.bays = bs.map (·.2)
  ei : S.images = im.map (·.2)
  head : w.heap[s]? = some (.cells (shelfC S bv iv) 104 (0, 0))
  rb : w.ownsRow 0 106 2 bv bs.length (bs.flatMap bayC)
  ri : w.ownsRow 0 41 1 iv im.length (im.map imC)
  kb : ∀ x ∈ bs, DK w x.1 x.2.D
  ki : ∀ x ∈ im, DK w x.1 x.2
  apart : (bs.map (·.1) ++ im.map (·.1)).Pairwise Apart
  os : O s
  ob : ∀ q, some q = bv.ownBlock → O q
  oi : ∀ q, some q = iv.ownBlock → O q
  od : ∀ L ∈ bs.map (·.1) ++ im.map (·.1), ∀ q, L.has q → O q
  olt : ∀ q, O q → q < w.heap.size
/-- The shelf in memory. -/
def ShelfAt (w : World) (O : Nat → Prop) (s : Nat) (S : Shf0.Shelf) : Prop := ∃ bs im bv iv, ShelfIn w O s S bs im bv iv
/-- What it owns behind a step: what it owned, and what is new. -/
def grow (O : Nat → Prop) (w w' : World) : Nat → Prop := fun q => O q ∨ (w.heap.size ≤ q ∧ q < w'.heap.size)

theorem bayC_get : ∀ (bs : List (Loc × Shf0.Bay)) (i u : Nat), u < 2 → (bs.flatMap bayC)[i * 2 + u]? = (bs[i]?).bind fun d => (bayC d)[u]?
  | [], i, u, _ => by simp
  | d :: vs, 0, u, hu => by
    rw [List.flatMap_cons, Nat.zero_mul, Nat.zero_add, List.getElem?_append_left (by simpa [bayC] using hu)]; rfl
  | d :: vs, i + 1, u, hu => by
    rw [List.flatMap_cons, List.getElem?_append_right (by simp [bayC]; omega)]
    have : (i + 1) * 2 + u - (bayC d).length = i * 2 + u := by simp [bayC]; omega
    rw [this, bayC_get vs i u hu]; rfl
theorem bayC_len (bs : List (Loc × Shf0.Bay)) : (bs.flatMap bayC).length = bs.length * 2 := by
  induction bs with
  | nil => rfl
  | cons d vs ih => rw [List.flatMap_cons, List.length_append, ih]; simp [bayC]; omega

theorem ShelfIn.pos {w : World} {O : Nat → Prop} {s : Nat} {S : Shf0.Shelf} {bs : List (Loc × Shf0.Bay)} {im : List (Loc × Dsk)} {bv iv : Value} (h : ShelfIn w O s S bs im bv iv) : 0 < bs.length ∧ bs.length ≤ 64 ∧ bs.length = S.bays.length := by
  have h1 := h.ok.num
  have h2 := h.ok.cfg.1
  have h3 : S.bays.length = bs.length := by rw [h.eb]; simp
  omega

/-- The bays' row opened. -/
theorem ShelfIn.open_ {w : World} {O : Nat → Prop} {s : Nat} {S : Shf0.Shelf} {bs : List (Loc × Shf0.Bay)} {im : List (Loc × Dsk)} {bv iv : Value} (h : ShelfIn w O s S bs im bv iv) :
    ∃ vb cap cur, bv = .slice (some ⟨vb, 0, none⟩) bs.length cap ∧ w.heap[vb]? = some (.cells cur 106 (0, 0)) ∧ bs.length * 2 ≤ cur.size ∧ O vb ∧
      ∀ (i : Nat) (x : Loc × Shf0.Bay), bs[i]? = some x → w.cell? ⟨vb, i * 2, none⟩ = some x.1.ptr ∧ w.cell? ⟨vb, i * 2 + 1, none⟩ = some (.int .i64 x.2.st) := by
  obtain ⟨hp, -, -⟩ := h.pos
  obtain ⟨h1, h2 | ⟨vb, cap, cur, h2, h3, h4, h5, h6, h7, h8⟩⟩ := h.rb
  · omega
  · refine ⟨vb, cap, cur, h2, h4, by omega, h.ob vb (by rw [h2]; rfl), fun i x hx => ?_⟩
    have hi : i < bs.length := (List.getElem?_eq_some_iff.1 hx).1
    have hc : ∀ u, u < 2 → cur[i * 2 + u]? = (bayC x)[u]? := fun u hu => by
      have : (cur.toList.take (bs.length * 2))[i * 2 + u]? = (bayC x)[u]? := by rw [h8, bayC_get bs i u hu, hx]; rfl
      rw [List.getElem?_take_of_lt (by omega)] at this
      simpa using this
    exact ⟨(cell_of_blk h4).trans (hc 0 (by omega)), (cell_of_blk h4).trans (hc 1 (by omega))⟩

/-- The shelf stays while others turn. -/
theorem ShelfIn.fr {w w' : World} {O : Nat → Prop} {s : Nat} {S : Shf0.Shelf} {bs : List (Loc × Shf0.Bay)} {im : List (Loc × Dsk)} {bv iv : Value} (h : ShelfIn w O s S bs im bv iv) {T : Nat → Prop} (f : Fr T w w') (hT : ∀ q, O q → ¬ T q) : ShelfIn w' O s S bs im bv iv := by
  have hrow : ∀ {base : Nat} {e : TypeId} {size : Nat} {v : Value} {n : Nat} {xs : List Value}, w.ownsRow base e size v n xs → (∀ q, some q = v.ownBlock → O q) → w'.ownsRow base e size v n xs := fun {base e size v n xs} hr ho => by
    obtain ⟨h1, h2 | ⟨g, cap, cur, h2, h3, h4, h5⟩⟩ := hr
    · exact ⟨h1, .inl h2⟩
    · have hlt := lt_of_blk h4
      exact ⟨h1, .inr ⟨g, cap, cur, h2, h3, (f.block g hlt (hT g (ho g (by rw [h2]; rfl)))).trans h4, h5⟩⟩
  exact ⟨h.ok, h.eb, h.ei, (f.block s (lt_of_blk h.head) (hT s h.os)).trans h.head, hrow h.rb h.ob, hrow h.ri h.oi,
    fun x hx => (h.kb x hx).fr f fun q hq => hT q (h.od x.1 (by simp only [List.mem_append, List.mem_map]; exact .inl ⟨x, hx, rfl⟩) q hq),
    fun x hx => (h.ki x hx).fr f fun q hq => hT q (h.od x.1 (by simp only [List.mem_append, List.mem_map]; exact .inr ⟨x, hx, rfl⟩) q hq),
    h.apart, h.os, h.ob, h.oi, h.od, fun q hq => Nat.lt_of_lt_of_le (h.olt q hq) f.size⟩
theorem ShelfAt.fr {w w' : World} {O : Nat → Prop} {s : Nat} {S : Shf0.Shelf} (h : ShelfAt w O s S) {T : Nat → Prop} (f : Fr T w w') (hT : ∀ q, O q → ¬ T q) : ShelfAt w' O s S := by
  obtain ⟨bs, im, bv, iv, h⟩ := h
  exact ⟨bs, im, bv, iv, h.fr f hT⟩
theorem ShelfAt.keep {w w' : World} {O : Nat → Prop} {s : Nat} {S : Shf0.Shelf} (h : ShelfAt w O s S) (f : Fr (fun _ => False) w w') : ShelfAt w' O s S := h.fr f fun _ _ h => h
theorem ShelfAt.olt {w : World} {O : Nat → Prop} {s : Nat} {S : Shf0.Shelf} (h : ShelfAt w O s S) {q : Nat} (hq : O q) : q < w.heap.size := by
  obtain ⟨bs, im, bv, iv, h⟩ := h
  exact h.olt q hq
/-- It may own more. -/
theorem ShelfAt.mono {w : World} {O O' : Nat → Prop} {s : Nat} {S : Shf0.Shelf} (h : ShelfAt w O s S) (hO : ∀ q, O q → O' q) (hl : ∀ q, O' q → q < w.heap.size) : ShelfAt w O' s S := by
  obtain ⟨bs, im, bv, iv, h⟩ := h
  exact ⟨bs, im, bv, iv, h.ok, h.eb, h.ei, h.head, h.rb, h.ri, h.kb, h.ki, h.apart, hO _ h.os, fun q hq => hO _ (h.ob q hq), fun q hq => hO _ (h.oi q hq), fun L hL q hq => hO _ (h.od L hL q hq), hl⟩
theorem ShelfAt.grow {w w' : World} {O : Nat → Prop} {s : Nat} {S : Shf0.Shelf} (h : ShelfAt w' O s S) : ShelfAt w' (grow O w w') s S := h.mono (fun _ hq => .inl hq) fun _ hq => hq.elim (fun h' => h.olt h') (·.2)

end Go.Proofs.Ytmbkmfpnjpkakaa

namespace Go.Proofs.Ytmbkmfpnjpkakaa
open Go.RowKit Go.Im Go.Dsk0

section
variable {w : World} {O : Nat → Prop} {s : Nat} {S : Shf0.Shelf}

theorem state_calls (h : ShelfAt w O s S) (d : Int) : Calls Try.prog 46 #[.pointer (some ⟨s, 0, none⟩), .int .i64 d] w fun e w' => e = .returned (.int .i64 (Shf0.state S d)) ∧ w = w' := by
  obtain ⟨bs, im, bv, iv, h⟩ := h
  obtain ⟨hp1, hp2, hp3⟩ := h.pos
  obtain ⟨vb, cap, cur, rfl, hvb, hcz, -, hcell⟩ := h.open_
  have c6 : w.cell? ⟨s, 6, none⟩ = some (.slice (some ⟨vb, 0, none⟩) bs.length cap) := cell_of_blk h.head
  have hst : Shf0.state S d = if 0 ≤ d ∧ d < bs.length then ((bs[d.toNat]?).map (·.2.st)).getD 0 else 0 := by
    unfold Shf0.state
    rw [hp3, h.eb]
    simp [List.getElem?_map, Function.comp_def]
  have HST := Lib.hid hst; clear hst
  have HC := Lib.hid hcell; clear hcell
  clear h hvb hp3
  by_cases h0 : 0 ≤ d
  · by_cases h1 : d < bs.length
    · obtain ⟨k, rfl⟩ : ∃ k : Nat, d = k := ⟨d.toNat, by omega⟩
      obtain ⟨x, hx⟩ : ∃ x, bs[k]? = some x := ⟨_, List.getElem?_eq_getElem (by omega)⟩
      have c7 := (HC.out k x hx).2
      have he : Shf0.state S k = x.2.st := by rw [HST.out, if_pos ⟨h0, h1⟩, Int.toNat_natCast, hx]; rfl
      have HE := Lib.hid he; clear he hx
      go_enter Try.func46, Try.ntmps46
      go_wp2_with fail
      go_ret
      exact ⟨by rw [HE.out]; rfl, rfl⟩
    · have he : Shf0.state S d = 0 := by rw [HST.out, if_neg (by omega)]
      have HE := Lib.hid he; clear he
      go_enter Try.func46, Try.ntmps46
      go_wp2_with fail
      go_ret
      exact ⟨by rw [HE.out]; rfl, rfl⟩
  · have he : Shf0.state S d = 0 := by rw [HST.out, if_neg (by omega)]
    have HE := Lib.hid he; clear he
    go_enter Try.func46, Try.ntmps46
    go_wp2_with fail
    go_ret
    exact ⟨by rw [HE.out]; rfl, rfl⟩

theorem up_calls (h : ShelfAt w O s S) : Calls Try.prog 50 #[.pointer (some ⟨s, 0, none⟩)] w fun e w' => e = .returned (.bool (!S.off)) ∧ w = w' := by
  obtain ⟨bs, im, bv, iv, h⟩ := h
  have c8 : w.cell? ⟨s, 8, none⟩ = some (.bool S.off) := cell_of_blk h.head
  clear h
  go_enter Try.func50, Try.ntmps50
  go_wp2_with fail
  go_ret
  exact ⟨rfl, rfl⟩

theorem zero23 (w : World) : (zeroValue 23).run Try.prog w = .ok (.agg #[.int .i64 0, .int .i64 0, .int .i64 0, .int .i64 0, .int .i64 0, .int .i64 0]) w := by kernel_rfl
theorem info23 : (Try.prog.info? 23).map (·.size) = some 6 := by kernel_rfl
theorem info23' : (Try.prog.info? 23).map (fun i => (i.zero, i.size, i.bytes)) = some (some (.agg #[.int .i64 0, .int .i64 0, .int .i64 0, .int .i64 0, .int .i64 0, .int .i64 0]), 6, 48) := by kernel_rfl
def cfgA (c : Shf0.Cfg) : Array Value := #[.int .i64 c.disks, .int .i64 c.racks, .int .i64 c.rows, .int .i64 c.spare, .int .i64 c.log, .int .i64 c.image]
theorem cfgA_one (c : Shf0.Cfg) : (cfgA c).all (·.oneCell') = true := by simp [cfgA, Value.oneCell']
theorem cfgA_cells {w : World} {b : Nat} {c : Shf0.Cfg} (h : w.heap[b]? = some (.cells (cfgA c) 23 (0, 0))) : w.cell? ⟨b, 0, none⟩ = some (.int .i64 c.disks) ∧ w.cell? ⟨b, 1, none⟩ = some (.int .i64 c.racks) ∧ w.cell? ⟨b, 2, none⟩ = some (.int .i64 c.rows) ∧ w.cell? ⟨b, 3, none⟩ = some (.int .i64 c.spare) ∧ w.cell? ⟨b, 4, none⟩ = some (.int .i64 c.log) ∧ w.cell? ⟨b, 5, none⟩ = some (.int .i64 c.image) :=
  ⟨cell_of_blk h, cell_of_blk h, cell_of_blk h, cell_of_blk h, cell_of_blk h, cell_of_blk h⟩
theorem config_calls (h : ShelfAt w O s S) : Calls Try.prog 68 #[.pointer (some ⟨s, 0, none⟩)] w fun e w' => e = .returned (cfgV S.cfg) ∧ Fr (fun _ => False) w w' := by
  obtain ⟨bs, im, bv, iv, h⟩ := h
  have c0 : w.cell? ⟨s, 0, none⟩ = some (.int .i64 S.cfg.disks) := cell_of_blk h.head
  have c1 : w.cell? ⟨s, 1, none⟩ = some (.int .i64 S.cfg.racks) := cell_of_blk h.head
  have c2 : w.cell? ⟨s, 2, none⟩ = some (.int .i64 S.cfg.rows) := cell_of_blk h.head
  have c3 : w.cell? ⟨s, 3, none⟩ = some (.int .i64 S.cfg.spare) := cell_of_blk h.head
  have c4 : w.cell? ⟨s, 4, none⟩ = some (.int .i64 S.cfg.log) := cell_of_blk h.head
  have c5 : w.cell? ⟨s, 5, none⟩ = some (.int .i64 S.cfg.image) := cell_of_blk h.head
  have hs := lt_of_blk h.head
  clear h
  go_enter Try.func68, Try.ntmps68
  go_wp2_with (first
    | (refine im_alloc_row rfl 23 rfl (zero23 _) ?_; intro w2 b2 f2 z2; have B2 := Lib.hid b2; clear b2; have Z2 := Lib.hid z2; clear z2; have d0 := (f2.cb hs (fun h => h)).trans c0; have d1 := (f2.cb hs (fun h => h)).trans c1; have d2 := (f2.cb hs (fun h => h)).trans c2; have d3 := (f2.cb hs (fun h => h)).trans c3; have d4 := (f2.cb hs (fun h => h)).trans c4; have d5 := (f2.cb hs (fun h => h)).trans c5)
    | (refine im_store_row rfl 23 _ _ rfl (vs := cfgA S.cfg) rfl rfl B2.out rfl info23 (cfgA_one _) ?_; intro w3 b3 f3 z3; obtain ⟨q0, q1, q2, q3, q4, q5⟩ := cfgA_cells b3; clear b3; have Z3 := Lib.hid z3; clear z3))
  refine bodyPost_ret (v := cfgV S.cfg) (by simp [results, Try.results68, go_sem, q0, q1, q2, q3, q4, q5, cfgV]) rfl ⟨rfl, ?_⟩
  exact f2.trans' f3 (fun _ _ h => h) (fun i hi h => by omega)

/-- The step below which access stands. -/
theorem access_calls (h : ShelfAt w O s S) (d : Int) (h0 : 0 ≤ d) (h1 : d < S.bays.length) : Calls Try.prog 94 #[.pointer (some ⟨s, 0, none⟩), .int .i64 d] w fun e w' => e = .returned (.int .i64 (Shf0.access S d)) ∧ w = w' := by
  obtain ⟨bs, im, bv, iv, h⟩ := h
  obtain ⟨hp1, hp2, hp3⟩ := h.pos
  obtain ⟨vb, cap, cur, rfl, hvb, hcz, -, hcell⟩ := h.open_
  have c6 : w.cell? ⟨s, 6, none⟩ = some (.slice (some ⟨vb, 0, none⟩) bs.length cap) := cell_of_blk h.head
  have c8 : w.cell? ⟨s, 8, none⟩ = some (.bool S.off) := cell_of_blk h.head
  obtain ⟨k, rfl⟩ : ∃ k : Nat, d = k := ⟨d.toNat, by omega⟩
  have hk : k < bs.length := by omega
  obtain ⟨x, hx⟩ : ∃ x, bs[k]? = some x := ⟨_, List.getElem?_eq_getElem hk⟩
  have c7 := (hcell k x hx).2
  have he : Shf0.state S k = x.2.st := by
    unfold Shf0.state
    rw [if_pos ⟨by omega, by omega⟩, h.eb, Int.toNat_natCast, List.getElem?_map, hx]; rfl
  have ha : Shf0.access S k = if S.off = true then 14 else if x.2.st ≠ 1 then 15 else 0 := by unfold Shf0.access; rw [he]
  have HA := Lib.hid ha; clear ha he hx hcell
  clear h hp3
  cases hoff : S.off with
  | true =>
    rw [hoff] at c8 HA
    have hz : Shf0.access S k = 14 := HA.out
    have HZ := Lib.hid hz; clear hz
    go_enter Try.func94, Try.ntmps94
    go_wp2_with fail
    go_ret
    exact ⟨by rw [HZ.out]; rfl, rfl⟩
  | false =>
    rw [hoff] at c8 HA
    obtain ⟨t, ht⟩ : ∃ t, t = x.2.st := ⟨_, rfl⟩
    rw [← ht] at c7 HA
    clear ht
    by_cases h15 : t = 1
    · subst h15
      have hz : Shf0.access S k = 0 := HA.out
      have HZ := Lib.hid hz; clear hz
      go_enter Try.func94, Try.ntmps94
      go_wp2_with fail
      go_ret
      exact ⟨by rw [HZ.out]; rfl, rfl⟩
    · have hz : Shf0.access S k = 15 := by rw [HA.out, if_neg (by simp), if_pos h15]
      have HZ := Lib.hid hz; clear hz
      have hne : (t != 1) = true := by simp [h15]
      clear h15
      go_enter Try.func94, Try.ntmps94
      go_wp2_with fail
      go_ret
      exact ⟨by rw [HZ.out]; rfl, rfl⟩

end
end Go.Proofs.Ytmbkmfpnjpkakaa

namespace Go.Proofs.Ytmbkmfpnjpkakaa
open Go.RowKit Go.Im Go.Dsk0

theorem within_calls (n lo hi : Int) (b : Bool) (w : World) (h : decide (lo ≤ n ∧ n ≤ hi) = b) : Calls Try.prog 97 #[.int .i64 n, .int .i64 lo, .int .i64 hi] w fun e w' => e = .returned (.bool b) ∧ w = w' := by
  by_cases h0 : lo ≤ n
  · have e1 : b = decide (n ≤ hi) := by rw [← h]; simp [h0]
    have E1 := Lib.hid e1; clear e1 h
    go_enter Try.func97, Try.ntmps97
    go_wp2
    go_ret
    exact ⟨congrArg (fun b => Ending.returned (Value.bool b)) E1.out.symm, rfl⟩
  · have e1 : b = false := by rw [← h]; simp [h0]
    have E1 := Lib.hid e1; clear e1 h
    go_enter Try.func97, Try.ntmps97
    go_wp2
    go_ret
    exact ⟨congrArg (fun b => Ending.returned (Value.bool b)) E1.out.symm, rfl⟩

set_option maxRecDepth 100000 in
set_option maxHeartbeats 1000000 in
theorem check_no1 (c : Shf0.Cfg) (w : World) (h1 : decide (1 ≤ c.disks ∧ c.disks ≤ 64) = false) : Calls Try.prog 60 #[cfgV c] w fun e w' => e = .returned (.int .i64 1) ∧ Fr (fun _ => False) w w' := by
  obtain ⟨n0, n1, n2, n3, n4, n5⟩ := c
  unfold cfgV
  simp only at h1
  have H1 := Lib.hid h1; clear h1
  go_enter Try.func60, Try.ntmps60
  go_wp2_with fail
  refine (within_calls n0 1 (64) false _ H1.out).mono ?_; rintro e w' ⟨rfl, rfl⟩
  go_wp2_with fail
  go_ret
  exact ⟨rfl, (Fr.refl _ _).alloc _⟩

set_option maxRecDepth 100000 in
set_option maxHeartbeats 1000000 in
theorem check_no2 (c : Shf0.Cfg) (w : World) (h1 : decide (1 ≤ c.disks ∧ c.disks ≤ 64) = true) (h2 : decide (1 ≤ c.racks ∧ c.racks ≤ 8) = false) : Calls Try.prog 60 #[cfgV c] w fun e w' => e = .returned (.int .i64 1) ∧ Fr (fun _ => False) w w' := by
  obtain ⟨n0, n1, n2, n3, n4, n5⟩ := c
  unfold cfgV
  simp only at h1 h2
  have d0 : 1 ≤ n0 ∧ n0 ≤ 64 := of_decide_eq_true h1
  obtain ⟨d0, d1⟩ := d0
  have H1 := Lib.hid h1; clear h1
  have H2 := Lib.hid h2; clear h2
  go_enter Try.func60, Try.ntmps60
  go_wp2_with fail
  refine (within_calls n0 1 (64) true _ H1.out).mono ?_; rintro e w' ⟨rfl, rfl⟩
  go_wp2_with fail
  refine (within_calls n1 1 (8) false _ H2.out).mono ?_; rintro e w' ⟨rfl, rfl⟩
  go_wp2_with fail
  go_ret
  exact ⟨rfl, (Fr.refl _ _).alloc _⟩

set_option maxRecDepth 100000 in
set_option maxHeartbeats 1000000 in
theorem check_no3 (c : Shf0.Cfg) (w : World) (h1 : decide (1 ≤ c.disks ∧ c.disks ≤ 64) = true) (h2 : decide (1 ≤ c.racks ∧ c.racks ≤ 8) = true) (h3 : decide (1 ≤ c.rows ∧ c.rows ≤ 4096) = false) : Calls Try.prog 60 #[cfgV c] w fun e w' => e = .returned (.int .i64 1) ∧ Fr (fun _ => False) w w' := by
  obtain ⟨n0, n1, n2, n3, n4, n5⟩ := c
  unfold cfgV
  simp only at h1 h2 h3
  have d0 : 1 ≤ n0 ∧ n0 ≤ 64 := of_decide_eq_true h1
  obtain ⟨d0, d1⟩ := d0
  have r0 : 1 ≤ n1 ∧ n1 ≤ 8 := of_decide_eq_true h2
  obtain ⟨r0, r1⟩ := r0
  have H1 := Lib.hid h1; clear h1
  have H2 := Lib.hid h2; clear h2
  have H3 := Lib.hid h3; clear h3
  go_enter Try.func60, Try.ntmps60
  go_wp2_with fail
  refine (within_calls n0 1 (64) true _ H1.out).mono ?_; rintro e w' ⟨rfl, rfl⟩
  go_wp2_with fail
  refine (within_calls n1 1 (8) true _ H2.out).mono ?_; rintro e w' ⟨rfl, rfl⟩
  go_wp2_with fail
  refine (within_calls n2 1 (4096) false _ H3.out).mono ?_; rintro e w' ⟨rfl, rfl⟩
  go_wp2_with fail
  go_ret
  exact ⟨rfl, (Fr.refl _ _).alloc _⟩

set_option maxRecDepth 100000 in
set_option maxHeartbeats 1000000 in
theorem check_no4 (c : Shf0.Cfg) (w : World) (h1 : decide (1 ≤ c.disks ∧ c.disks ≤ 64) = true) (h2 : decide (1 ≤ c.racks ∧ c.racks ≤ 8) = true) (h3 : decide (1 ≤ c.rows ∧ c.rows ≤ 4096) = true) (h4 : decide (0 ≤ c.spare ∧ c.spare ≤ c.disks - 1) = false) : Calls Try.prog 60 #[cfgV c] w fun e w' => e = .returned (.int .i64 1) ∧ Fr (fun _ => False) w w' := by
  obtain ⟨n0, n1, n2, n3, n4, n5⟩ := c
  unfold cfgV
  simp only at h1 h2 h3 h4
  have d0 : 1 ≤ n0 ∧ n0 ≤ 64 := of_decide_eq_true h1
  obtain ⟨d0, d1⟩ := d0
  have r0 : 1 ≤ n1 ∧ n1 ≤ 8 := of_decide_eq_true h2
  obtain ⟨r0, r1⟩ := r0
  have H1 := Lib.hid h1; clear h1
  have H2 := Lib.hid h2; clear h2
  have H3 := Lib.hid h3; clear h3
  have H4 := Lib.hid h4; clear h4
  go_enter Try.func60, Try.ntmps60
  go_wp2_with fail
  refine (within_calls n0 1 (64) true _ H1.out).mono ?_; rintro e w' ⟨rfl, rfl⟩
  go_wp2_with fail
  refine (within_calls n1 1 (8) true _ H2.out).mono ?_; rintro e w' ⟨rfl, rfl⟩
  go_wp2_with fail
  refine (within_calls n2 1 (4096) true _ H3.out).mono ?_; rintro e w' ⟨rfl, rfl⟩
  go_wp2_with fail
  refine (within_calls n3 0 (n0 - 1) false _ H4.out).mono ?_; rintro e w' ⟨rfl, rfl⟩
  go_wp2_with fail
  go_ret
  exact ⟨rfl, (Fr.refl _ _).alloc _⟩

set_option maxRecDepth 100000 in
set_option maxHeartbeats 1000000 in
theorem check_no5 (c : Shf0.Cfg) (w : World) (h1 : decide (1 ≤ c.disks ∧ c.disks ≤ 64) = true) (h2 : decide (1 ≤ c.racks ∧ c.racks ≤ 8) = true) (h3 : decide (1 ≤ c.rows ∧ c.rows ≤ 4096) = true) (h4 : decide (0 ≤ c.spare ∧ c.spare ≤ c.disks - 1) = true) (h5 : decide (1 ≤ c.log ∧ c.log ≤ 65536) = false) : Calls Try.prog 60 #[cfgV c] w fun e w' => e = .returned (.int .i64 1) ∧ Fr (fun _ => False) w w' := by
  obtain ⟨n0, n1, n2, n3, n4, n5⟩ := c
  unfold cfgV
  simp only at h1 h2 h3 h4 h5
  have d0 : 1 ≤ n0 ∧ n0 ≤ 64 := of_decide_eq_true h1
  obtain ⟨d0, d1⟩ := d0
  have r0 : 1 ≤ n1 ∧ n1 ≤ 8 := of_decide_eq_true h2
  obtain ⟨r0, r1⟩ := r0
  have H1 := Lib.hid h1; clear h1
  have H2 := Lib.hid h2; clear h2
  have H3 := Lib.hid h3; clear h3
  have H4 := Lib.hid h4; clear h4
  have H5 := Lib.hid h5; clear h5
  go_enter Try.func60, Try.ntmps60
  go_wp2_with fail
  refine (within_calls n0 1 (64) true _ H1.out).mono ?_; rintro e w' ⟨rfl, rfl⟩
  go_wp2_with fail
  refine (within_calls n1 1 (8) true _ H2.out).mono ?_; rintro e w' ⟨rfl, rfl⟩
  go_wp2_with fail
  refine (within_calls n2 1 (4096) true _ H3.out).mono ?_; rintro e w' ⟨rfl, rfl⟩
  go_wp2_with fail
  refine (within_calls n3 0 (n0 - 1) true _ H4.out).mono ?_; rintro e w' ⟨rfl, rfl⟩
  go_wp2_with fail
  refine (within_calls n4 1 (65536) false _ H5.out).mono ?_; rintro e w' ⟨rfl, rfl⟩
  go_wp2_with fail
  go_ret
  exact ⟨rfl, (Fr.refl _ _).alloc _⟩

set_option maxRecDepth 100000 in
set_option maxHeartbeats 1000000 in
theorem check_no6 (c : Shf0.Cfg) (w : World) (h1 : decide (1 ≤ c.disks ∧ c.disks ≤ 64) = true) (h2 : decide (1 ≤ c.racks ∧ c.racks ≤ 8) = true) (h3 : decide (1 ≤ c.rows ∧ c.rows ≤ 4096) = true) (h4 : decide (0 ≤ c.spare ∧ c.spare ≤ c.disks - 1) = true) (h5 : decide (1 ≤ c.log ∧ c.log ≤ 65536) = true) (h6 : decide (1 ≤ c.image ∧ c.image ≤ 65536) = false) : Calls Try.prog 60 #[cfgV c] w fun e w' => e = .returned (.int .i64 1) ∧ Fr (fun _ => False) w w' := by
  obtain ⟨n0, n1, n2, n3, n4, n5⟩ := c
  unfold cfgV
  simp only at h1 h2 h3 h4 h5 h6
  have d0 : 1 ≤ n0 ∧ n0 ≤ 64 := of_decide_eq_true h1
  obtain ⟨d0, d1⟩ := d0
  have r0 : 1 ≤ n1 ∧ n1 ≤ 8 := of_decide_eq_true h2
  obtain ⟨r0, r1⟩ := r0
  have H1 := Lib.hid h1; clear h1
  have H2 := Lib.hid h2; clear h2
  have H3 := Lib.hid h3; clear h3
  have H4 := Lib.hid h4; clear h4
  have H5 := Lib.hid h5; clear h5
  have H6 := Lib.hid h6; clear h6
  go_enter Try.func60, Try.ntmps60
  go_wp2_with fail
  refine (within_calls n0 1 (64) true _ H1.out).mono ?_; rintro e w' ⟨rfl, rfl⟩
  go_wp2_with fail
  refine (within_calls n1 1 (8) true _ H2.out).mono ?_; rintro e w' ⟨rfl, rfl⟩
  go_wp2_with fail
  refine (within_calls n2 1 (4096) true _ H3.out).mono ?_; rintro e w' ⟨rfl, rfl⟩
  go_wp2_with fail
  refine (within_calls n3 0 (n0 - 1) true _ H4.out).mono ?_; rintro e w' ⟨rfl, rfl⟩
  go_wp2_with fail
  refine (within_calls n4 1 (65536) true _ H5.out).mono ?_; rintro e w' ⟨rfl, rfl⟩
  go_wp2_with fail
  refine (within_calls n5 1 (65536) false _ H6.out).mono ?_; rintro e w' ⟨rfl, rfl⟩
  go_wp2_with fail
  go_ret
  exact ⟨rfl, (Fr.refl _ _).alloc _⟩

set_option maxRecDepth 100000 in
set_option maxHeartbeats 1000000 in
theorem check_no7 (c : Shf0.Cfg) (w : World) (h1 : decide (1 ≤ c.disks ∧ c.disks ≤ 64) = true) (h2 : decide (1 ≤ c.racks ∧ c.racks ≤ 8) = true) (h3 : decide (1 ≤ c.rows ∧ c.rows ≤ 4096) = true) (h4 : decide (0 ≤ c.spare ∧ c.spare ≤ c.disks - 1) = true) (h5 : decide (1 ≤ c.log ∧ c.log ≤ 65536) = true) (h6 : decide (1 ≤ c.image ∧ c.image ≤ 65536) = true) (h7 : c.disks % c.racks ≠ 0) : Calls Try.prog 60 #[cfgV c] w fun e w' => e = .returned (.int .i64 1) ∧ Fr (fun _ => False) w w' := by
  obtain ⟨n0, n1, n2, n3, n4, n5⟩ := c
  unfold cfgV
  simp only at h1 h2 h3 h4 h5 h6 h7
  have d0 : 1 ≤ n0 ∧ n0 ≤ 64 := of_decide_eq_true h1
  obtain ⟨d0, d1⟩ := d0
  have r0 : 1 ≤ n1 ∧ n1 ≤ 8 := of_decide_eq_true h2
  obtain ⟨r0, r1⟩ := r0
  have H1 := Lib.hid h1; clear h1
  have H2 := Lib.hid h2; clear h2
  have H3 := Lib.hid h3; clear h3
  have H4 := Lib.hid h4; clear h4
  have H5 := Lib.hid h5; clear h5
  have H6 := Lib.hid h6; clear h6
  have h8 : (n0 % n1 != 0) = true := by simp [h7]
  clear h7
  go_enter Try.func60, Try.ntmps60
  go_wp2_with fail
  refine (within_calls n0 1 (64) true _ H1.out).mono ?_; rintro e w' ⟨rfl, rfl⟩
  go_wp2_with fail
  refine (within_calls n1 1 (8) true _ H2.out).mono ?_; rintro e w' ⟨rfl, rfl⟩
  go_wp2_with fail
  refine (within_calls n2 1 (4096) true _ H3.out).mono ?_; rintro e w' ⟨rfl, rfl⟩
  go_wp2_with fail
  refine (within_calls n3 0 (n0 - 1) true _ H4.out).mono ?_; rintro e w' ⟨rfl, rfl⟩
  go_wp2_with fail
  refine (within_calls n4 1 (65536) true _ H5.out).mono ?_; rintro e w' ⟨rfl, rfl⟩
  go_wp2_with fail
  refine (within_calls n5 1 (65536) true _ H6.out).mono ?_; rintro e w' ⟨rfl, rfl⟩
  go_wp2_with fail
  go_ret
  exact ⟨rfl, (Fr.refl _ _).alloc _⟩

set_option maxRecDepth 100000 in
set_option maxHeartbeats 1000000 in
theorem check_all (c : Shf0.Cfg) (w : World) (h1 : decide (1 ≤ c.disks ∧ c.disks ≤ 64) = true) (h2 : decide (1 ≤ c.racks ∧ c.racks ≤ 8) = true) (h3 : decide (1 ≤ c.rows ∧ c.rows ≤ 4096) = true) (h4 : decide (0 ≤ c.spare ∧ c.spare ≤ c.disks - 1) = true) (h5 : decide (1 ≤ c.log ∧ c.log ≤ 65536) = true) (h6 : decide (1 ≤ c.image ∧ c.image ≤ 65536) = true) (h7 : c.disks % c.racks = 0) : Calls Try.prog 60 #[cfgV c] w fun e w' => e = .returned (.int .i64 0) ∧ Fr (fun _ => False) w w' := by
  obtain ⟨n0, n1, n2, n3, n4, n5⟩ := c
  unfold cfgV
  simp only at h1 h2 h3 h4 h5 h6 h7
  have d0 : 1 ≤ n0 ∧ n0 ≤ 64 := of_decide_eq_true h1
  obtain ⟨d0, d1⟩ := d0
  have r0 : 1 ≤ n1 ∧ n1 ≤ 8 := of_decide_eq_true h2
  obtain ⟨r0, r1⟩ := r0
  have H1 := Lib.hid h1; clear h1
  have H2 := Lib.hid h2; clear h2
  have H3 := Lib.hid h3; clear h3
  have H4 := Lib.hid h4; clear h4
  have H5 := Lib.hid h5; clear h5
  have H6 := Lib.hid h6; clear h6
  have h8 : (n0 % n1 != 0) = false := by simp [h7]
  clear h7
  go_enter Try.func60, Try.ntmps60
  go_wp2_with fail
  refine (within_calls n0 1 (64) true _ H1.out).mono ?_; rintro e w' ⟨rfl, rfl⟩
  go_wp2_with fail
  refine (within_calls n1 1 (8) true _ H2.out).mono ?_; rintro e w' ⟨rfl, rfl⟩
  go_wp2_with fail
  refine (within_calls n2 1 (4096) true _ H3.out).mono ?_; rintro e w' ⟨rfl, rfl⟩
  go_wp2_with fail
  refine (within_calls n3 0 (n0 - 1) true _ H4.out).mono ?_; rintro e w' ⟨rfl, rfl⟩
  go_wp2_with fail
  refine (within_calls n4 1 (65536) true _ H5.out).mono ?_; rintro e w' ⟨rfl, rfl⟩
  go_wp2_with fail
  refine (within_calls n5 1 (65536) true _ H6.out).mono ?_; rintro e w' ⟨rfl, rfl⟩
  go_wp2_with fail
  go_ret
  exact ⟨rfl, (Fr.refl _ _).alloc _⟩


/-- Check. -/
theorem check_calls (c : Shf0.Cfg) (w : World) : Calls Try.prog 60 #[cfgV c] w fun e w' => e = .returned (.int .i64 (if Shf0.valid c then 0 else 1)) ∧ Fr (fun _ => False) w w' := by
  by_cases h1 : 1 ≤ c.disks ∧ c.disks ≤ 64
  · by_cases h2 : 1 ≤ c.racks ∧ c.racks ≤ 8
    · by_cases h3 : 1 ≤ c.rows ∧ c.rows ≤ 4096
      · by_cases h4 : 0 ≤ c.spare ∧ c.spare ≤ c.disks - 1
        · by_cases h5 : 1 ≤ c.log ∧ c.log ≤ 65536
          · by_cases h6 : 1 ≤ c.image ∧ c.image ≤ 65536
            · by_cases h7 : c.disks % c.racks = 0
              · rw [if_pos ⟨h1, h2, h3, h4, h5, h6, h7⟩]
                exact check_all c w (decide_eq_true h1) (decide_eq_true h2) (decide_eq_true h3) (decide_eq_true h4) (decide_eq_true h5) (decide_eq_true h6) h7
              · rw [if_neg (fun h => h7 h.2.2.2.2.2.2)]
                exact check_no7 c w (decide_eq_true h1) (decide_eq_true h2) (decide_eq_true h3) (decide_eq_true h4) (decide_eq_true h5) (decide_eq_true h6) h7
            · rw [if_neg (fun h => h6 h.2.2.2.2.2.1)]
              exact check_no6 c w (decide_eq_true h1) (decide_eq_true h2) (decide_eq_true h3) (decide_eq_true h4) (decide_eq_true h5) (decide_eq_false h6)
          · rw [if_neg (fun h => h5 h.2.2.2.2.1)]
            exact check_no5 c w (decide_eq_true h1) (decide_eq_true h2) (decide_eq_true h3) (decide_eq_true h4) (decide_eq_false h5)
        · rw [if_neg (fun h => h4 h.2.2.2.1)]
          exact check_no4 c w (decide_eq_true h1) (decide_eq_true h2) (decide_eq_true h3) (decide_eq_false h4)
      · rw [if_neg (fun h => h3 h.2.2.1)]
        exact check_no3 c w (decide_eq_true h1) (decide_eq_true h2) (decide_eq_false h3)
    · rw [if_neg (fun h => h2 h.2.1)]
      exact check_no2 c w (decide_eq_true h1) (decide_eq_false h2)
  · rw [if_neg (fun h => h1 h.1)]
    exact check_no1 c w (decide_eq_false h1)

end Go.Proofs.Ytmbkmfpnjpkakaa

namespace Go.Proofs.Ytmbkmfpnjpkakaa
open Go.RowKit Go.Im Go.Dsk0

theorem zero155 (w : World) : (zeroValue 155).run Try.prog w = .ok (.agg #[.int .i64 0, .int .i64 0, .int .i64 0, .int .i64 0]) w := by kernel_rfl
theorem info155 : (Try.prog.info? 155).map (·.size) = some 4 := by kernel_rfl
def sizA (c : Shf0.Cfg) : Array Value := #[.int .i64 c.log, .int .i64 c.image, .int .i64 c.image, .int .i64 c.rows]
def sizV (c : Shf0.Cfg) : Value := .agg #[.int .i64 c.log, .int .i64 c.image, .int .i64 c.image, .int .i64 c.rows]
theorem sizA_one (c : Shf0.Cfg) : (sizA c).all (·.oneCell') = true := by simp [sizA, Value.oneCell']
theorem sizA_cells {w : World} {b : Nat} {c : Shf0.Cfg} {t : TypeId} {fr : Nat × Nat} (h : w.heap[b]? = some (.cells (sizA c) t fr)) : w.cell? ⟨b, 0, none⟩ = some (.int .i64 c.log) ∧ w.cell? ⟨b, 1, none⟩ = some (.int .i64 c.image) ∧ w.cell? ⟨b, 2, none⟩ = some (.int .i64 c.image) ∧ w.cell? ⟨b, 3, none⟩ = some (.int .i64 c.rows) :=
  ⟨cell_of_blk h, cell_of_blk h, cell_of_blk h, cell_of_blk h⟩

theorem sizes_calls (c : Shf0.Cfg) (w : World) : Calls Try.prog 98 #[cfgV c] w fun e w' => e = .returned (sizV c) ∧ Fr (fun _ => False) w w' := by
  obtain ⟨n0, n1, n2, n3, n4, n5⟩ := c
  unfold cfgV
  go_enter Try.func98, Try.ntmps98
  go_wp2_with (first
    | (refine im_box rfl 23 _ rfl rfl ?_; intro w1 b1 f1 z1; have Z1 := Lib.hid z1; clear z1; obtain ⟨p0, p1, p2, p3, p4, p5⟩ := cfgA_cells (c := ⟨n0, n1, n2, n3, n4, n5⟩) b1; have hl1 := lt_of_blk b1; clear b1)
    | (refine im_alloc_row rfl 155 rfl (zero155 _) ?_; intro w2 b2 f2 z2; have B2 := Lib.hid b2; clear b2; have Z2 := Lib.hid z2; clear z2; have d2 := (f2.cb hl1 (fun h => h)).trans p2; have d4 := (f2.cb hl1 (fun h => h)).trans p4; have d5 := (f2.cb hl1 (fun h => h)).trans p5)
    | (refine im_store_row rfl 155 _ _ rfl (vs := sizA ⟨n0, n1, n2, n3, n4, n5⟩) rfl rfl B2.out rfl info155 (sizA_one _) ?_; intro w3 b3 f3 z3; obtain ⟨q0, q1, q2, q3⟩ := sizA_cells b3; clear b3; have Z3 := Lib.hid z3; clear z3))
  have z1 := Z1.out
  have z2 := Z2.out
  refine bodyPost_ret (v := sizV ⟨n0, n1, n2, n3, n4, n5⟩) (by simp [results, Try.results98, go_sem, q0, q1, q2, q3, sizV]) rfl ⟨rfl, ?_⟩
  exact (f1.trans f2).trans' f3 (fun _ _ h => h) (fun i hi h => by omega)

/-- Bounds of a valid configuration. -/
theorem valid_bd {c : Shf0.Cfg} (h : Shf0.valid c) : 1 ≤ c.disks ∧ c.disks ≤ 64 ∧ 1 ≤ c.rows ∧ c.rows ≤ 4096 ∧ 1 ≤ c.log ∧ c.log ≤ 65536 ∧ 1 ≤ c.image ∧ c.image ≤ 65536 :=
  ⟨h.1.1, h.1.2, h.2.2.1.1, h.2.2.1.2, h.2.2.2.2.1.1, h.2.2.2.2.1.2, h.2.2.2.2.2.1.1, h.2.2.2.2.2.1.2⟩

set_option maxHeartbeats 1000000 in
theorem sectors_calls (c : Shf0.Cfg) (w : World) (hv : Shf0.valid c) : Calls Try.prog 61 #[cfgV c] w fun e w' => e = .returned (.int .i64 (Shf0.sectors c)) ∧ Fr (fun _ => False) w w' := by
  obtain ⟨-, -, h3, h4, h5, h6, h7, h8⟩ := valid_bd hv
  have hs : Shf0.sectors c = c.log + c.image + c.image + c.rows := rfl
  rw [hs]
  clear hs hv
  obtain ⟨n0, n1, n2, n3, n4, n5⟩ := c
  simp only at h3 h4 h5 h6 h7 h8 ⊢
  have hsz : ∀ W, Calls Try.prog 98 #[.agg #[.int .i64 n0, .int .i64 n1, .int .i64 n2, .int .i64 n3, .int .i64 n4, .int .i64 n5]] W fun e w' => e = .returned (.agg #[.int .i64 n4, .int .i64 n5, .int .i64 n5, .int .i64 n2]) ∧ Fr (fun _ => False) W w' := fun W => sizes_calls ⟨n0, n1, n2, n3, n4, n5⟩ W
  have HS := Lib.hid hsz; clear hsz
  unfold cfgV
  simp only
  go_enter Try.func61, Try.ntmps61
  go_wp2_with (first
    | (refine im_box rfl 23 _ rfl rfl ?_; intro w1 b1 f1 z1; have Z1 := Lib.hid z1; clear z1; obtain ⟨p0, p1, p2, p3, p4, p5⟩ := cfgA_cells (c := ⟨n0, n1, n2, n3, n4, n5⟩) b1; have hl1 := lt_of_blk b1; clear b1))
  refine (HS.out _).mono ?_; rintro e w2 ⟨rfl, f2⟩
  go_wp2_with fail
  have i0 : ∀ w, (Instr.index 155 (.agg #[.int .i64 n4, .int .i64 n5, .int .i64 n5, .int .i64 n2]) (.int .i64 0)).run Try.prog w = .ok (.int .i64 n4) w := fun _ => by kernel_rfl
  have i1 : ∀ w, (Instr.index 155 (.agg #[.int .i64 n4, .int .i64 n5, .int .i64 n5, .int .i64 n2]) (.int .i64 1)).run Try.prog w = .ok (.int .i64 n5) w := fun _ => by kernel_rfl
  have i2 : ∀ w, (Instr.index 155 (.agg #[.int .i64 n4, .int .i64 n5, .int .i64 n5, .int .i64 n2]) (.int .i64 2)).run Try.prog w = .ok (.int .i64 n5) w := fun _ => by kernel_rfl
  have i3 : ∀ w, (Instr.index 155 (.agg #[.int .i64 n4, .int .i64 n5, .int .i64 n5, .int .i64 n2]) (.int .i64 3)).run Try.prog w = .ok (.int .i64 n2) w := fun _ => by kernel_rfl
  have ff := f1.trans f2
  go_loopg [3, 8] 4 (fun m t k wr => w2 = wr ∧ ((m = 4 ∧ k = .int .i64 0 ∧ t = .int .i64 0) ∨ (m = 3 ∧ k = .int .i64 1 ∧ t = .int .i64 n4) ∨ (m = 2 ∧ k = .int .i64 2 ∧ t = .int .i64 (n4 + n5)) ∨ (m = 1 ∧ k = .int .i64 3 ∧ t = .int .i64 (n4 + n5 + n5)) ∨ (m = 0 ∧ k = .int .i64 4 ∧ t = .int .i64 (n4 + n5 + n5 + n2))))
  case atStart => exact ⟨rfl, .inl ⟨rfl, rfl, rfl⟩⟩
  case round =>
    obtain ⟨rfl, ⟨rfl, rfl, rfl⟩ | ⟨rfl, rfl, rfl⟩ | ⟨rfl, rfl, rfl⟩ | ⟨rfl, rfl, rfl⟩ | ⟨rfl, rfl, rfl⟩⟩ := hrel
    · go_wp2_with fail
      go_roundg 3
      case measure => omega
      case rel => exact ⟨rfl, .inr (.inl ⟨rfl, rfl, rfl⟩)⟩
    · go_wp2_with fail
      go_roundg 2
      case measure => omega
      case rel => exact ⟨rfl, .inr (.inr (.inl ⟨rfl, rfl, rfl⟩))⟩
    · go_wp2_with fail
      go_roundg 1
      case measure => omega
      case rel => exact ⟨rfl, .inr (.inr (.inr (.inl ⟨rfl, rfl, rfl⟩)))⟩
    · go_wp2_with fail
      go_roundg 0
      case measure => omega
      case rel => exact ⟨rfl, .inr (.inr (.inr (.inr ⟨rfl, rfl, rfl⟩)))⟩
    · go_wp2_with fail
      go_ret
      exact ⟨rfl, ff⟩
end Go.Proofs.Ytmbkmfpnjpkakaa

namespace Go.Proofs.Ytmbkmfpnjpkakaa
open Go.RowKit Go.Im Go.Dsk0

theorem ShelfAt.ok {w : World} {O : Nat → Prop} {s : Nat} {S : Shf0.Shelf} (h : ShelfAt w O s S) : Shf0.Ok S := by
  obtain ⟨bs, im, bv, iv, h⟩ := h; exact h.ok
theorem ShelfAt.head {w : World} {O : Nat → Prop} {s : Nat} {S : Shf0.Shelf} (h : ShelfAt w O s S) : ∃ bv iv, w.heap[s]? = some (.cells (shelfC S bv iv) 104 (0, 0)) := by
  obtain ⟨bs, im, bv, iv, h⟩ := h; exact ⟨bv, iv, h.head⟩
theorem plc_cells {w : World} {b : Nat} {p : Shf0.Place} {t : TypeId} {fr : Nat × Nat} (h : w.heap[b]? = some (.cells #[.int .i64 p.disk, .int .i64 p.area, .int .i64 p.index] t fr)) : w.cell? ⟨b, 0, none⟩ = some (.int .i64 p.disk) ∧ w.cell? ⟨b, 1, none⟩ = some (.int .i64 p.area) ∧ w.cell? ⟨b, 2, none⟩ = some (.int .i64 p.index) :=
  ⟨cell_of_blk h, cell_of_blk h, cell_of_blk h⟩

theorem number_no {S : Shf0.Shelf} {p : Shf0.Place} (h : ¬ Shf0.there S p) : Shf0.number S p = -1 := by unfold Shf0.number; rw [if_neg h]

set_option maxRecDepth 100000 in
set_option maxHeartbeats 2000000 in
theorem number_calls {O : Nat → Prop} {s : Nat} {S : Shf0.Shelf} (p : Shf0.Place) (w : World) (h : ShelfAt w O s S) : Calls Try.prog 93 #[.pointer (some ⟨s, 0, none⟩), placeV p] w fun e w' => e = .returned (.int .i64 (Shf0.number S p)) ∧ Fr (fun _ => False) w w' := by
  obtain ⟨-, -, h3, h4, h5, h6, h7, h8⟩ := valid_bd h.ok.cfg
  obtain ⟨bv, iv, hh⟩ := h.head
  have HH := Lib.hid hh; clear hh
  obtain ⟨st, hst⟩ : ∃ st, st = Shf0.state S p.disk := ⟨_, rfl⟩
  obtain ⟨num, hnum⟩ : ∃ n, n = Shf0.number S p := ⟨_, rfl⟩
  have hth : Shf0.there S p ↔ st ≠ 0 ∧ 1 ≤ p.area ∧ p.area ≤ 4 ∧ 0 ≤ p.index ∧ p.index < ((Shf0.sizes S.cfg)[(p.area - 1).toNat]?).getD 0 := by rw [hst]; rfl
  have hyes : Shf0.there S p → num = Shf0.offset S.cfg p.area + p.index := fun ht => by rw [hnum]; unfold Shf0.number; rw [if_pos ht]
  have hno : ¬ Shf0.there S p → num = -1 := fun ht => by rw [hnum]; exact number_no ht
  have H := Lib.hid h; clear h
  obtain ⟨c, hc⟩ : ∃ c, c = S.cfg := ⟨_, rfl⟩
  rw [← hnum]
  rw [← hc] at h3 h4 h5 h6 h7 h8 hth hyes
  have hsc : shelfC S bv iv = #[.int .i64 c.disks, .int .i64 c.racks, .int .i64 c.rows, .int .i64 c.spare, .int .i64 c.log, .int .i64 c.image, bv, iv, .bool S.off, .bool S.fused, .int .i64 S.left] := by unfold shelfC; rw [hc]
  rw [hsc] at HH
  clear hsc hc hnum
  have HST := Lib.hid hst; clear hst
  have HY := Lib.hid hyes; clear hyes
  have HN := Lib.hid hno; clear hno
  have HT := Lib.hid hth; clear hth
  obtain ⟨d, area, idx⟩ := p
  obtain ⟨n0, n1, n2, n3, n4, n5⟩ := c
  simp only at h3 h4 h5 h6 h7 h8 HST HT HY HH
  unfold placeV
  simp only
  have hslt := lt_of_blk HH.out
  have hsz : ∀ W, Calls Try.prog 98 #[.agg #[.int .i64 n0, .int .i64 n1, .int .i64 n2, .int .i64 n3, .int .i64 n4, .int .i64 n5]] W fun e w' => e = .returned (.agg #[.int .i64 n4, .int .i64 n5, .int .i64 n5, .int .i64 n2]) ∧ Fr (fun _ => False) W w' := fun W => sizes_calls ⟨n0, n1, n2, n3, n4, n5⟩ W
  have HS := Lib.hid hsz; clear hsz
  by_cases hs0 : st = 0
  · have hz : num = -1 := HN.out (fun ht => (HT.out.1 ht).1 hs0)
    have HZ := Lib.hid hz; clear hz
    have hb : (st == 0) = true := by simp [hs0]
    clear hs0
    go_enter Try.func93, Try.ntmps93
    go_wp2_with (first
      | (refine im_box rfl 25 _ rfl rfl ?_; intro w1 b1 f1 z1; have Z1 := Lib.hid z1; clear z1; obtain ⟨p0, p1, p2⟩ := plc_cells (p := ⟨d, area, idx⟩) b1; have hl1 := lt_of_blk b1; clear b1))
    refine (state_calls (H.out.keep f1) d).mono ?_; rintro e w2 ⟨rfl, rfl⟩
    rw [← HST.out]
    go_wp2_with fail
    go_ret
    exact ⟨by rw [HZ.out]; rfl, f1⟩
  have hb : (st == 0) = false := by simp [hs0]
  by_cases ha1 : area < 1
  · have hz : num = -1 := HN.out (fun ht => by have := (HT.out.1 ht).2.1; omega)
    have HZ := Lib.hid hz; clear hz
    clear hs0
    go_enter Try.func93, Try.ntmps93
    go_wp2_with (first
      | (refine im_box rfl 25 _ rfl rfl ?_; intro w1 b1 f1 z1; have Z1 := Lib.hid z1; clear z1; obtain ⟨p0, p1, p2⟩ := plc_cells (p := ⟨d, area, idx⟩) b1; have hl1 := lt_of_blk b1; clear b1))
    refine (state_calls (H.out.keep f1) d).mono ?_; rintro e w2 ⟨rfl, rfl⟩
    rw [← HST.out]
    go_wp2_with fail
    go_ret
    exact ⟨by rw [HZ.out]; rfl, f1⟩
  by_cases ha4 : 4 < area
  · have hz : num = -1 := HN.out (fun ht => by have := (HT.out.1 ht).2.2.1; omega)
    have HZ := Lib.hid hz; clear hz
    clear hs0
    go_enter Try.func93, Try.ntmps93
    go_wp2_with (first
      | (refine im_box rfl 25 _ rfl rfl ?_; intro w1 b1 f1 z1; have Z1 := Lib.hid z1; clear z1; obtain ⟨p0, p1, p2⟩ := plc_cells (p := ⟨d, area, idx⟩) b1; have hl1 := lt_of_blk b1; clear b1))
    refine (state_calls (H.out.keep f1) d).mono ?_; rintro e w2 ⟨rfl, rfl⟩
    rw [← HST.out]
    go_wp2_with fail
    go_ret
    exact ⟨by rw [HZ.out]; rfl, f1⟩
  obtain ⟨a, rfl⟩ : ∃ a : Nat, area = (a : Int) + 1 := ⟨(area - 1).toNat, by omega⟩
  have ha3 : a ≤ 3 := by omega
  obtain ⟨lim, hlim⟩ : ∃ lim, lim = ((Shf0.sizes ⟨n0, n1, n2, n3, n4, n5⟩)[a]?).getD 0 := ⟨_, rfl⟩
  have hth2 : Shf0.there S ⟨d, (a : Int) + 1, idx⟩ ↔ 0 ≤ idx ∧ idx < lim := by
    rw [HT.out, hlim, show (((a : Int) + 1 - 1).toNat) = a by omega]
    exact ⟨fun h => h.2.2.2, fun h => ⟨hs0, by omega, by omega, h⟩⟩
  have HT2 := Lib.hid hth2; clear hth2 HT
  have hlb : lim ≤ 65536 := by
    rw [hlim]
    have : a = 0 ∨ a = 1 ∨ a = 2 ∨ a = 3 := by omega
    rcases this with rfl | rfl | rfl | rfl <;> simp [Shf0.sizes] <;> omega
  have hcl : ∀ (W : World) (b : Nat), W.heap[b]? = some (.cells (sizA ⟨n0, n1, n2, n3, n4, n5⟩) 155 (0, 0)) → W.cell? ⟨b, a, none⟩ = some (.int .i64 lim) := fun W b hb => by
    rw [cell_of_blk hb, hlim]
    have : a = 0 ∨ a = 1 ∨ a = 2 ∨ a = 3 := by omega
    rcases this with rfl | rfl | rfl | rfl <;> rfl
  have HCL := Lib.hid hcl; clear hcl
  have HLIM := Lib.hid hlim; clear hlim
  have hwr : IntKind.i64.wrap (a : Int) = (a : Int) := IntWalk.i64_in _ (by omega)
  have HWR := Lib.hid hwr; clear hwr
  have b1' : ¬ ((a : Int) + 1 < 1) := by omega
  have b4' : ¬ (4 < (a : Int) + 1) := by omega
  clear hs0 ha1 ha4
  go_enter Try.func93, Try.ntmps93
  go_wp2_with (first
    | (refine im_box rfl 25 _ rfl rfl ?_; intro w1 b1 f1 z1; have Z1 := Lib.hid z1; clear z1; obtain ⟨p0, p1, p2⟩ := plc_cells (p := ⟨d, (a : Int) + 1, idx⟩) b1; have hl1 := lt_of_blk b1; clear b1))
  refine (state_calls (H.out.keep f1) d).mono ?_; rintro e w2 ⟨rfl, rfl⟩
  rw [← HST.out]
  have e0 : w1.cell? ⟨s, 0, none⟩ = some (.int .i64 n0) := (f1.cb hslt (fun h => h)).trans (cell_of_blk HH.out)
  have e1 : w1.cell? ⟨s, 1, none⟩ = some (.int .i64 n1) := (f1.cb hslt (fun h => h)).trans (cell_of_blk HH.out)
  have e2 : w1.cell? ⟨s, 2, none⟩ = some (.int .i64 n2) := (f1.cb hslt (fun h => h)).trans (cell_of_blk HH.out)
  have e3 : w1.cell? ⟨s, 3, none⟩ = some (.int .i64 n3) := (f1.cb hslt (fun h => h)).trans (cell_of_blk HH.out)
  have e4 : w1.cell? ⟨s, 4, none⟩ = some (.int .i64 n4) := (f1.cb hslt (fun h => h)).trans (cell_of_blk HH.out)
  have e5 : w1.cell? ⟨s, 5, none⟩ = some (.int .i64 n5) := (f1.cb hslt (fun h => h)).trans (cell_of_blk HH.out)
  go_wp2_with fail
  refine (HS.out _).mono ?_; rintro e w2 ⟨rfl, f2⟩
  clear e0 e1 e2 e3 e4 e5
  go_wp2_with (first
    | (refine im_alloc_row rfl 155 rfl (zero155 _) ?_; intro w3 b3 f3 z3; have B3 := Lib.hid b3; clear b3; have Z3 := Lib.hid z3; clear z3)
    | (refine im_store_row rfl 155 _ _ rfl (vs := sizA ⟨n0, n1, n2, n3, n4, n5⟩) rfl rfl B3.out rfl info155 (sizA_one _) ?_; intro w4 b4 f4 z4; have B4 := Lib.hid b4; clear b4; have Z4 := Lib.hid z4; clear z4))
  have hz1 := Z1.out
  have hz3 := Z3.out
  have hz4 := Z4.out
  have hs2 := f2.size
  have ff : Fr (fun _ => False) w w4 := (((f1.trans f2).trans f3).trans' f4 (fun _ _ h => h) (fun i hi h => by omega))
  have g1 : Fr (fun q => w2.heap.size ≤ q) w1 w4 := ((f2.trans f3).no).trans (f4.mono fun i hi h => by omega)
  have hl := HCL.out w4 _ B4.out
  have p1' := (g1.cb hl1 (by omega)).trans p1
  have p2' := (g1.cb hl1 (by omega)).trans p2
  have hlt4 := lt_of_blk B4.out
  clear p0 p1 p2 f1 f2 f3 f4 g1 hz1 hz3 hz4
  obtain ⟨blk, hblk⟩ : ∃ blk, blk = w2.heap.size := ⟨_, rfl⟩
  rw [← hblk] at B4 hl hlt4 ⊢
  clear hblk Z3 B3
  have hwr := HWR.out
  have ha0 : (0 : Int) ≤ a := by omega
  have ha4 : (a : Int) < 4 := by omega
  by_cases hi0 : idx < 0
  · have hz : num = -1 := HN.out (fun ht => by have := HT2.out.1 ht; omega)
    have HZ := Lib.hid hz; clear hz
    have hd : decide (idx < 0) = true := by simpa using hi0
    refine wp_region_seq (fun W => W.cell? ⟨w.heap.size, 1, none⟩ = some (.int .i64 ((a : Int) + 1)) ∧ W.cell? ⟨w.heap.size, 2, none⟩ = some (.int .i64 idx) ∧ W.cell? ⟨blk, a, none⟩ = some (.int .i64 lim)) [0, 1, 2, 3, 4, 5, 6, 7, 8, 9, 10, 11, 12] [] (by kernel_rfl) (by kernel_rfl) (by kernel_rfl) ⟨p1', p2', hl⟩ ?_
    simp only [pickOps, List.filterMap_cons, List.filterMap_nil, List.getElem?_toArray, List.getElem?_cons_zero, List.getElem?_cons_succ, Option.map_some]
    repeat (first | (refine seqH_read (v := ?_) (by rfl) (by rfl) ?_ ?_; rotate_left; (focus (intro W hS; (try dsimp only at hS); obtain ⟨s1, s2, s3⟩ := hS; go_simp; try with_reducible rfl)); simp only [Act.put, List.setIfInBounds_toArray, List.set_cons_zero, List.set_cons_succ]) | (refine seqH_skip (by rfl) (by rfl) ?_; simp only [Act.put, List.setIfInBounds_toArray, List.set_cons_zero, List.set_cons_succ]))
    refine seqH_nil ?_
    go_wp2_with fail
    go_ret
    exact ⟨by rw [HZ.out]; rfl, ff.drew⟩
  have hd : decide (idx < 0) = false := by simpa using hi0
  by_cases hi1 : lim ≤ idx
  · have hz : num = -1 := HN.out (fun ht => by have := HT2.out.1 ht; omega)
    have HZ := Lib.hid hz; clear hz
    have hd2 : decide (lim ≤ idx) = true := by simpa using hi1
    refine wp_region_seq (fun W => W.cell? ⟨w.heap.size, 1, none⟩ = some (.int .i64 ((a : Int) + 1)) ∧ W.cell? ⟨w.heap.size, 2, none⟩ = some (.int .i64 idx) ∧ W.cell? ⟨blk, a, none⟩ = some (.int .i64 lim)) [0, 1, 2, 3, 4, 5, 6, 7, 8, 9, 10, 11, 12] [] (by kernel_rfl) (by kernel_rfl) (by kernel_rfl) ⟨p1', p2', hl⟩ ?_
    simp only [pickOps, List.filterMap_cons, List.filterMap_nil, List.getElem?_toArray, List.getElem?_cons_zero, List.getElem?_cons_succ, Option.map_some]
    repeat (first | (refine seqH_read (v := ?_) (by rfl) (by rfl) ?_ ?_; rotate_left; (focus (intro W hS; (try dsimp only at hS); obtain ⟨s1, s2, s3⟩ := hS; go_simp; try with_reducible rfl)); simp only [Act.put, List.setIfInBounds_toArray, List.set_cons_zero, List.set_cons_succ]) | (refine seqH_skip (by rfl) (by rfl) ?_; simp only [Act.put, List.setIfInBounds_toArray, List.set_cons_zero, List.set_cons_succ]))
    refine seqH_nil ?_
    go_wp2_with fail
    go_ret
    exact ⟨by rw [HZ.out]; rfl, ff.drew⟩
  have hd2 : decide (lim ≤ idx) = false := by simpa using hi1
  have hz : num = Shf0.offset ⟨n0, n1, n2, n3, n4, n5⟩ ((a : Int) + 1) + idx := HY.out (HT2.out.2 ⟨by omega, by omega⟩)
  have HZ := Lib.hid hz; clear hz
  · refine wp_region_seq (fun W => W.cell? ⟨w.heap.size, 1, none⟩ = some (.int .i64 ((a : Int) + 1)) ∧ W.cell? ⟨w.heap.size, 2, none⟩ = some (.int .i64 idx) ∧ W.cell? ⟨blk, a, none⟩ = some (.int .i64 lim)) [0, 1, 2, 3, 4, 5, 6, 7, 8, 9, 10, 11, 12] [] (by kernel_rfl) (by kernel_rfl) (by kernel_rfl) ⟨p1', p2', hl⟩ ?_
    simp only [pickOps, List.filterMap_cons, List.filterMap_nil, List.getElem?_toArray, List.getElem?_cons_zero, List.getElem?_cons_succ, Option.map_some]
    repeat (first | (refine seqH_read (v := ?_) (by rfl) (by rfl) ?_ ?_; rotate_left; (focus (intro W hS; (try dsimp only at hS); obtain ⟨s1, s2, s3⟩ := hS; go_simp; try with_reducible rfl)); simp only [Act.put, List.setIfInBounds_toArray, List.set_cons_zero, List.set_cons_succ]) | (refine seqH_skip (by rfl) (by rfl) ?_; simp only [Act.put, List.setIfInBounds_toArray, List.set_cons_zero, List.set_cons_succ]))
    refine seqH_nil ?_
    have hsl : ∀ W, (Instr.sliceAt 155 (.pointer (some ⟨blk, 0, none⟩)) none (some (.int .i64 (a : Int))) none).run Try.prog W = .ok (.slice (some ⟨blk, 0, none⟩) a 4) W := by
      have : a = 0 ∨ a = 1 ∨ a = 2 ∨ a = 3 := by omega
      rcases this with rfl | rfl | rfl | rfl <;> (intro W; kernel_rfl)
    go_wp2_with fail
    obtain ⟨q0, q1, q2, q3⟩ := sizA_cells B4.out
    clear p1' p2' hl B4 HCL hsl
    have hlim0 : lim ≤ 65536 := hlb
    have hi2 : idx < 65536 := by omega
    have hi3 : 0 ≤ idx := by omega
    clear hi0 hi1 hd hd2 hlb hlim0
    go_loopg [6, 49] a (fun m t i wr => w4.drew = wr ∧ ((m = a ∧ i = .int .i64 0 ∧ t = .int .i64 idx) ∨ (m + 1 = a ∧ i = .int .i64 1 ∧ t = .int .i64 (idx + n4)) ∨ (m + 2 = a ∧ i = .int .i64 2 ∧ t = .int .i64 (idx + n4 + n5)) ∨ (m + 3 = a ∧ i = .int .i64 3 ∧ t = .int .i64 (idx + n4 + n5 + n5))))
    case atStart => exact ⟨rfl, .inl ⟨rfl, rfl, rfl⟩⟩
    case round =>
      obtain ⟨rfl, ⟨hm, rfl, rfl⟩ | ⟨hm, rfl, rfl⟩ | ⟨hm, rfl, rfl⟩ | ⟨hm, rfl, rfl⟩⟩ := hrel
      · by_cases hk : 0 < a
        · have hk' : (0 : Int) < a := by omega
          have HM := Lib.hid hm; clear hm
          go_wp2_with fail
          have hm := HM.out
          go_roundg (gk - 1)
          case measure => omega
          case rel => exact ⟨rfl, .inr (.inl ⟨by omega, rfl, rfl⟩)⟩
        · obtain rfl : a = 0 := by omega
          have hz : num = idx := by rw [HZ.out]; simp [Shf0.offset, Shf0.sizes] <;> omega
          have HZ2 := Lib.hid hz; clear hz hm
          go_wp2_with fail
          go_ret
          exact ⟨by rw [HZ2.out]; rfl, ff.drew⟩
      · by_cases hk : 1 < a
        · have hk' : (1 : Int) < a := by omega
          have HM := Lib.hid hm; clear hm
          go_wp2_with fail
          have hm := HM.out
          go_roundg (gk - 1)
          case measure => omega
          case rel => exact ⟨rfl, .inr (.inr (.inl ⟨by omega, rfl, rfl⟩))⟩
        · obtain rfl : a = 1 := by omega
          have hz : num = idx + n4 := by rw [HZ.out]; simp [Shf0.offset, Shf0.sizes] <;> omega
          have HZ2 := Lib.hid hz; clear hz hm
          go_wp2_with fail
          go_ret
          exact ⟨by rw [HZ2.out]; rfl, ff.drew⟩
      · by_cases hk : 2 < a
        · have hk' : (2 : Int) < a := by omega
          have HM := Lib.hid hm; clear hm
          go_wp2_with fail
          have hm := HM.out
          go_roundg (gk - 1)
          case measure => omega
          case rel => exact ⟨rfl, .inr (.inr (.inr ⟨by omega, rfl, rfl⟩))⟩
        · obtain rfl : a = 2 := by omega
          have hz : num = idx + n4 + n5 := by rw [HZ.out]; simp [Shf0.offset, Shf0.sizes] <;> omega
          have HZ2 := Lib.hid hz; clear hz hm
          go_wp2_with fail
          go_ret
          exact ⟨by rw [HZ2.out]; rfl, ff.drew⟩
      · obtain rfl : a = 3 := by omega
        have hz : num = idx + n4 + n5 + n5 := by rw [HZ.out]; simp [Shf0.offset, Shf0.sizes] <;> omega
        have HZ2 := Lib.hid hz; clear hz hm
        go_wp2_with fail
        go_ret
        exact ⟨by rw [HZ2.out]; rfl, ff.drew⟩
end Go.Proofs.Ytmbkmfpnjpkakaa

namespace Go.Proofs.Ytmbkmfpnjpkakaa
open Go.RowKit Go.Im Go.Dsk0

section
variable {w w' : World} {O : Nat → Prop} {s : Nat} {S S' : Shf0.Shelf} {bs : List (Loc × Shf0.Bay)} {im : List (Loc × Dsk)} {bv iv : Value}

theorem own_row {w w' : World} {base : Nat} {e : TypeId} {size : Nat} {v : Value} {n : Nat} {xs : List Value} (hr : w.ownsRow base e size v n xs) {T : Nat → Prop} (f : Fr T w w') (hT : ∀ (b : Nat) (cs : Array Value), w.heap[b]? = some (.cells cs e (0, 0)) → ¬ T b) : w'.ownsRow base e size v n xs := by
  obtain ⟨h1, h2 | ⟨g, cap, cur, h2, h3, h4, h5⟩⟩ := hr
  · exact ⟨h1, .inl h2⟩
  · exact ⟨h1, .inr ⟨g, cap, cur, h2, h3, (f.block g (lt_of_blk h4) (hT g cur h4)).trans h4, h5⟩⟩
theorem cells_type {w : World} {b : Nat} {cs cs' : Array Value} {t t' : TypeId} {fr fr' : Nat × Nat} (h : w.heap[b]? = some (.cells cs t fr)) (h' : w.heap[b]? = some (.cells cs' t' fr')) : t = t' := by
  rw [h] at h'; injection h' with h'; injection h'

/-- The shelf's own block turned. -/
theorem ShelfIn.setHead (h : ShelfIn w O s S bs im bv iv) (f : Fr (fun q => q = s) w w') (hb : w'.heap[s]? = some (.cells (shelfC S' bv iv) 104 (0, 0))) (hk : Shf0.Ok S') (e1 : S'.bays = S.bays) (e2 : S'.images = S.images) : ShelfIn w' O s S' bs im bv iv := by
  have hne : ∀ (b : Nat) (cs : Array Value) (t : TypeId) (fr : Nat × Nat), w.heap[b]? = some (.cells cs t fr) → t ≠ 104 → ¬ b = s := fun b cs t fr hb' ht e => by
    subst e; exact ht (cells_type hb' h.head)
  have hd : ∀ L D, DK w L D → DK w' L D := fun L D hk => hk.fr f fun q hq e => by
    subst e
    exact hk.not h.head (by decide) (by decide) hq
  exact ⟨hk, e1.trans h.eb, e2.trans h.ei, hb, own_row h.rb f (fun b cs hb' => hne b cs _ _ hb' (by decide)), own_row h.ri f (fun b cs hb' => hne b cs _ _ hb' (by decide)), fun x hx => hd _ _ (h.kb x hx), fun x hx => hd _ _ (h.ki x hx), h.apart, h.os, h.ob, h.oi, h.od, fun q hq => Nat.lt_of_lt_of_le (h.olt q hq) f.size⟩

theorem foot_not {L : Loc} {D : Dsk} (h : DK w L D) {b : Nat} {cs : Array Value} {t : TypeId} {fr : Nat × Nat} (hb : w.heap[b]? = some (.cells cs t fr)) (h1 : t ≠ 126) (h2 : t ≠ 119) : ¬ L.foot b := fun hq => h.not hb h1 h2 (.inr hq)

theorem pair_mem {α : Type} {R : α → α → Prop} (hs : ∀ {a b}, R a b → R b a) : ∀ {l : List α}, l.Pairwise R → ∀ {i j : Nat} {a b : α}, l[i]? = some a → l[j]? = some b → i ≠ j → R a b
  | x :: l, h, 0, 0, _, _, _, _, hne => absurd rfl hne
  | x :: l, h, 0, j + 1, a, b, ha, hb, _ => by
    obtain ⟨h1, h2⟩ := List.pairwise_cons.1 h
    have e : x = a := by simpa using ha
    subst e
    exact h1 b (List.mem_of_getElem? (by simpa using hb))
  | x :: l, h, i + 1, 0, a, b, ha, hb, _ => by
    obtain ⟨h1, h2⟩ := List.pairwise_cons.1 h
    have e : x = b := by simpa using hb
    subst e
    exact hs (h1 a (List.mem_of_getElem? (by simpa using ha)))
  | x :: l, h, i + 1, j + 1, a, b, ha, hb, hne => by
    obtain ⟨h1, h2⟩ := List.pairwise_cons.1 h
    exact pair_mem hs h2 (by simpa using ha) (by simpa using hb) (fun e => hne (by omega))

/-- A bay's disk turned. -/
theorem ShelfIn.turn (h : ShelfIn w O s S bs im bv iv) {k : Nat} {L : Loc} {b : Shf0.Bay} (hk : bs[k]? = some (L, b)) {F : Dsk → Dsk} (f : Fr L.foot w w') (hd : DK w' L (F b.D)) (hl : (F b.D).length = b.D.length) :
    ShelfIn w' O s (Shf0.turnD S k F) (bs.modify k fun x => (x.1, { x.2 with D := F x.2.D })) im bv iv := by
  have hL := h.kb _ (List.mem_of_getElem? hk)
  simp only at hL
  have hb1 : bs.map (·.1) = (bs.modify k fun x => (x.1, { x.2 with D := F x.2.D })).map (·.1) := by
    apply List.ext_getElem?; intro i
    simp only [List.getElem?_map, List.getElem?_modify]
    cases bs[i]? with
    | none => rfl
    | some x => by_cases hik : k = i <;> simp [hik]
  have hbC : bs.flatMap bayC = (bs.modify k fun x => (x.1, { x.2 with D := F x.2.D })).flatMap bayC := by
    have : ∀ (l : List (Loc × Shf0.Bay)) (k : Nat), l.flatMap bayC = (l.modify k fun x => (x.1, { x.2 with D := F x.2.D })).flatMap bayC := by
      intro l
      induction l with
      | nil => intro k; simp
      | cons x l ih =>
        intro k
        cases k with
        | zero => simp [bayC]
        | succ k => simp only [List.modify_succ_cons, List.flatMap_cons]; rw [← ih k]
    exact this bs k
  have hmem : ∀ y ∈ bs.modify k fun x => (x.1, { x.2 with D := F x.2.D }), (y = (L, { b with D := F b.D })) ∨ (y ∈ bs ∧ Apart L y.1) := fun y hy => by
    obtain ⟨j, hj⟩ := List.mem_iff_getElem?.1 hy
    rw [List.getElem?_modify] at hj
    by_cases hkj : k = j
    · subst hkj; rw [hk] at hj; simp at hj; exact .inl hj.symm
    · cases hx : bs[j]? with
      | none => simp [hx] at hj
      | some x =>
        simp [hx, hkj] at hj
        subst hj
        refine .inr ⟨List.mem_of_getElem? hx, ?_⟩
        have h1 : (bs.map (·.1) ++ im.map (·.1))[k]? = some L := by
          rw [List.getElem?_append_left (by simp; exact (List.getElem?_eq_some_iff.1 hk).1), List.getElem?_map, hk]; rfl
        have h2 : (bs.map (·.1) ++ im.map (·.1))[j]? = some x.1 := by
          rw [List.getElem?_append_left (by simp; exact (List.getElem?_eq_some_iff.1 hx).1), List.getElem?_map, hx]; rfl
        exact pair_mem Apart.symm h.apart h1 h2 hkj
  have hrow : ∀ (b : Nat) (cs : Array Value) (t : TypeId), w.heap[b]? = some (.cells cs t (0, 0)) → t ≠ 126 → t ≠ 119 → ¬ L.foot b := fun b cs t hb h1 h2 => foot_not hL hb h1 h2
  have heb : (Shf0.turnD S k F).bays = (bs.modify k fun x => (x.1, { x.2 with D := F x.2.D })).map (·.2) := by
    unfold Shf0.turnD
    rw [h.eb]
    apply List.ext_getElem?; intro i
    simp only [List.getElem?_map, List.getElem?_modify]
    cases bs[i]? with
    | none => rfl
    | some x => by_cases hik : k = i <;> simp [hik]
  have hbay : ∀ y ∈ (Shf0.turnD S k F).bays, (y = { b with D := F b.D }) ∨ y ∈ S.bays := fun y hy => by
    rw [heb] at hy
    obtain ⟨x, hx, rfl⟩ := List.mem_map.1 hy
    rcases hmem x hx with rfl | ⟨hx, -⟩
    · exact .inl rfl
    · exact .inr (by rw [h.eb]; exact List.mem_map_of_mem hx)
  have hbS : b ∈ S.bays := by rw [h.eb]; exact List.mem_map.2 ⟨(L, b), List.mem_of_getElem? hk, rfl⟩
  refine ⟨⟨h.ok.cfg, h.ok.sec, ?_, fun y hy => ?_, fun y hy hst => ?_, fun y hy => ?_, h.ok.img⟩, heb, h.ei, (f.block s (lt_of_blk h.head) (hrow s _ _ h.head (by decide) (by decide))).trans h.head, ?_, own_row h.ri f (fun b cs hb => hrow b cs _ hb (by decide) (by decide)), fun y hy => ?_, fun x hx => ?_, ?_, h.os, h.ob, h.oi, ?_, fun q hq => Nat.lt_of_lt_of_le (h.olt q hq) f.size⟩
  · simpa [Shf0.turnD] using h.ok.num
  · rcases hbay y hy with rfl | hy
    · exact hd.disk.ok
    · exact h.ok.bay y hy
  · rcases hbay y hy with rfl | hy
    · show ((F b.D).length : Int) = _
      rw [hl]; exact h.ok.len b hbS hst
    · exact h.ok.len y hy hst
  · rcases hbay y hy with rfl | hy
    · exact h.ok.st b hbS
    · exact h.ok.st y hy
  · rw [List.length_modify, ← hbC]
    exact own_row h.rb f (fun b cs hb => hrow b cs _ hb (by decide) (by decide))
  · rcases hmem y hy with rfl | ⟨hy, hap⟩
    · exact hd
    · exact (h.kb y hy).fr f fun q hq hq' => hap q (.inr hq') hq
  · have h1 : (bs.map (·.1) ++ im.map (·.1))[k]? = some L := by
      rw [List.getElem?_append_left (by simp; exact (List.getElem?_eq_some_iff.1 hk).1), List.getElem?_map, hk]; rfl
    obtain ⟨j, hj⟩ := List.mem_iff_getElem?.1 hx
    have h2 : (bs.map (·.1) ++ im.map (·.1))[bs.length + j]? = some x.1 := by
      rw [List.getElem?_append_right (by simp), List.getElem?_map]
      simp [hj]
    have hap := pair_mem Apart.symm h.apart h1 h2 (by have := (List.getElem?_eq_some_iff.1 hk).1; omega)
    exact (h.ki x hx).fr f fun q hq hq' => hap q (.inr hq') hq
  · rw [← hb1]; exact h.apart
  · rw [← hb1]; exact h.od

theorem foot_in (h : ShelfIn w O s S bs im bv iv) {k : Nat} {L : Loc} {b : Shf0.Bay} (hk : bs[k]? = some (L, b)) : ∀ q, L.has q → O q := fun q hq =>
  h.od L (by simp only [List.mem_append, List.mem_map]; exact .inl ⟨(L, b), List.mem_of_getElem? hk, rfl⟩) q hq
theorem state_at (h : ShelfIn w O s S bs im bv iv) {k : Nat} {x : Loc × Shf0.Bay} (hk : bs[k]? = some x) : Shf0.state S k = x.2.st := by
  have hl : S.bays.length = bs.length := by rw [h.eb]; simp
  have := (List.getElem?_eq_some_iff.1 hk).1
  unfold Shf0.state
  rw [if_pos ⟨by omega, by omega⟩, h.eb, Int.toNat_natCast, List.getElem?_map, hk]; rfl
theorem bayD_at (h : ShelfIn w O s S bs im bv iv) {k : Nat} {x : Loc × Shf0.Bay} (hk : bs[k]? = some x) : Shf0.bayD S k = x.2.D := by
  unfold Shf0.bayD
  rw [h.eb, List.getElem?_map, hk]; rfl
end
end Go.Proofs.Ytmbkmfpnjpkakaa

namespace Go.Proofs.Ytmbkmfpnjpkakaa
open Go.RowKit Go.Im Go.Dsk0

section
variable {w : World} {O : Nat → Prop} {s : Nat} {S : Shf0.Shelf}

set_option maxRecDepth 100000 in
set_option maxHeartbeats 1000000 in
theorem step0_calls  (F : Dsk → Dsk) (hF : ∀ D : Dsk, (F D).length = D.length) (h : ShelfAt w O s S) (d : Int) (h0 : 0 ≤ d) (h1 : d < S.bays.length)
    (hcall : ∀ (L : Loc) (D : Dsk) (t : Int) (w1 : World), Fr O w w1 → DK w1 L D → Calls Try.prog 92 #[.agg #[L.ptr, .int .i64 t]] w1 fun e w' => e = .returned (.tuple #[]) ∧ DiskAt w' L.g L.bd L.bc L.ba (F D) ∧ Fr L.foot w1 w') :
    Calls Try.prog 91 #[.pointer (some ⟨s, 0, none⟩), .int .i64 d, .func (.func 92) #[] #[]] w fun e w' => e = .returned (.int .i64 (Shf0.step S d F).1) ∧ ShelfAt w' O s (Shf0.step S d F).2 ∧ Fr O w w' ∧ w'.cell? ⟨s, 6, none⟩ = w.cell? ⟨s, 6, none⟩ := by
  obtain ⟨k, rfl⟩ : ∃ k : Nat, d = k := ⟨d.toNat, by omega⟩
  have HA := Lib.hid h
  obtain ⟨bs, im, bv, iv, hin⟩ := h
  obtain ⟨hp1, hp2, hp3⟩ := hin.pos
  obtain ⟨vb, cap, cur, rfl, hvb, hcz, hOv, hcell⟩ := hin.open_
  have hk : k < bs.length := by omega
  obtain ⟨⟨L, b⟩, hx⟩ : ∃ x, bs[k]? = some x := ⟨_, List.getElem?_eq_getElem hk⟩
  obtain ⟨c0, c1⟩ := hcell k _ hx
  simp only at c0 c1
  have c6 : w.cell? ⟨s, 6, none⟩ = some (.slice (some ⟨vb, 0, none⟩) bs.length cap) := cell_of_blk hin.head
  have c9 : w.cell? ⟨s, 9, none⟩ = some (.bool S.fused) := cell_of_blk hin.head
  have c10 : w.cell? ⟨s, 10, none⟩ = some (.int .i64 S.left) := cell_of_blk hin.head
  have HB := Lib.hid hin.head
  have HIN := Lib.hid hin
  have HX := Lib.hid hx
  have HC := Lib.hid hcall; clear hcall
  have hacc := access_calls HA.out k h0 h1
  have hDK := Lib.hid (hin.kb _ (List.mem_of_getElem? hx))
  have k0 : (0 : Int) ≤ k := by omega
  have k1 : (k : Int) < bs.length := by omega
  have hs104 := lt_of_blk hin.head
  have hvlt := lt_of_blk hvb
  have hvs : vb ≠ s := fun e => by
    subst e; exact absurd (cells_type hvb hin.head) (by decide)
  have hOs := hin.os
  have HFt := Lib.hid (foot_in hin hx)
  clear hcell hin hvb hx hp3 hcz
  obtain ⟨ac, hac⟩ : ∃ ac, ac = Shf0.access S k := ⟨_, rfl⟩
  obtain ⟨R, hR⟩ : ∃ R, R = Shf0.step S k F := ⟨_, rfl⟩
  have hR' : R = if ac ≠ 0 then (ac, S) else if S.fused = true then (if S.left = 0 then (14, { S with off := true, fused := false }) else (0, Shf0.turnD { S with left := IntKind.i64.wrap (S.left - 1) } k F)) else (0, Shf0.turnD S k F) := by rw [hR, hac]; rfl
  rw [← hR]
  clear hR
  by_cases ha : ac = 0
  · rw [if_neg (by simp [ha])] at hR'
    have ha1 : (ac != 0) = false := by simp [ha]
    have HAC := Lib.hid hac; clear hac
    cases hf : S.fused with
    | false =>
      have hR2 : R = (0, Shf0.turnD S k F) := by rw [hR', if_neg (by rw [hf]; simp)]
      rw [hf] at c9
      subst hR2
      clear hR' ha
      go_enter Try.func91, Try.ntmps91
      go_wp2_with fail
      refine hacc.mono ?_; rintro e w1 ⟨rfl, rfl⟩
      rw [← HAC.out]
      go_wp2_with fail
      refine (HC.out L b.D b.st _ (Fr.refl _ _) hDK.out).mono ?_; rintro e w1 ⟨rfl, d1, f1⟩
      have D1 := Lib.hid d1; clear d1
      go_wp2_with fail
      go_ret
      exact ⟨rfl, ⟨_, _, _, _, HIN.out.turn HX.out f1 (hDK.out.turn D1.out (hF _) f1.size) (hF _)⟩, f1.mono (fun q _ hq => HFt.out q (.inr hq)), f1.cb hs104 (foot_not hDK.out HIN.out.head (by decide) (by decide))⟩
    | true =>
      rw [if_pos hf] at hR'
      rw [hf] at c9
      by_cases hl : S.left = 0
      · have hR2 : R = (14, { S with off := true, fused := false }) := by rw [hR', if_pos hl]
        subst hR2
        rw [hl] at c10
        clear hR' ha hl
        go_enter Try.func91, Try.ntmps91
        go_wp2_with fail
        refine hacc.mono ?_; rintro e w1 ⟨rfl, rfl⟩
        rw [← HAC.out]
        go_wp2_with (first
          | (refine im_store1 rfl 4 _ _ rfl (b := s) (j := 8) (v := .bool true) rfl rfl rfl (by kernel_rfl) HB.out (by simp [shelfC]) ?_; intro w2 b2 f2 z2; have B2 := Lib.hid b2; clear b2; clear z2)
          | (refine im_store1 rfl 4 _ _ rfl (b := s) (j := 9) (v := .bool false) rfl rfl rfl (by kernel_rfl) B2.out (by simp [shelfC]) ?_; intro w3 b3 f3 z3; have B3 := Lib.hid b3; clear b3; clear z3))
        go_ret
        exact ⟨rfl, ⟨_, _, _, _, HIN.out.setHead (S' := { S with off := true, fused := false }) (f2.trans f3) B3.out ⟨HIN.out.ok.cfg, HIN.out.ok.sec, HIN.out.ok.num, HIN.out.ok.bay, HIN.out.ok.len, HIN.out.ok.st, HIN.out.ok.img⟩ rfl rfl⟩, (f2.trans f3).mono (fun q _ hq => by rw [hq]; exact hOs), (cell_of_blk B3.out).trans c6.symm⟩
      · have hR2 : R = (0, Shf0.turnD { S with left := IntKind.i64.wrap (S.left - 1) } k F) := by rw [hR', if_neg hl]
        subst hR2
        have hl1 : (S.left == 0) = false := by simp [hl]
        obtain ⟨N, hN⟩ : ∃ N, N = IntKind.i64.wrap (S.left - 1) := ⟨_, rfl⟩
        rw [← hN]
        have HNN := Lib.hid hN
        have hN' := hN.symm
        clear hR' ha hl hN
        go_enter Try.func91, Try.ntmps91
        go_wp2_with fail
        refine hacc.mono ?_; rintro e w1 ⟨rfl, rfl⟩
        rw [← HAC.out]
        go_wp2_with (first
          | (refine im_store1 rfl 3 _ _ rfl (b := s) (j := 10) (v := .int .i64 N) rfl rfl rfl (by kernel_rfl) HB.out (by simp [shelfC]) ?_; intro w2 b2 f2 z2; have B2 := Lib.hid b2; clear b2; clear z2; have c62 : w2.cell? ⟨s, 6, none⟩ = some (.slice (some ⟨vb, 0, none⟩) bs.length cap) := cell_of_blk B2.out; have c02 := (f2.cb hvlt hvs).trans c0; have c12 := (f2.cb hvlt hvs).trans c1))
        have hin2 := HIN.out.setHead (S' := { S with left := N }) f2 B2.out ⟨HIN.out.ok.cfg, HIN.out.ok.sec, HIN.out.ok.num, HIN.out.ok.bay, HIN.out.ok.len, HIN.out.ok.st, HIN.out.ok.img⟩ rfl rfl
        have HIN2 := Lib.hid hin2; clear hin2
        have ff2 : Fr O w w2 := f2.mono fun q _ hq => by rw [hq]; exact hOs
        have hDK2 := Lib.hid (HIN2.out.kb _ (List.mem_of_getElem? HX.out))
        go_wp2_with fail
        refine (HC.out L b.D b.st _ ff2 hDK2.out).mono ?_; rintro e w3 ⟨rfl, d3, f3⟩
        have D3 := Lib.hid d3; clear d3
        go_wp2_with fail
        go_ret
        exact ⟨rfl, ⟨_, _, _, _, HIN2.out.turn HX.out f3 (hDK2.out.turn D3.out (hF _) f3.size) (hF _)⟩, ff2.trans (f3.mono fun q _ hq => HFt.out q (.inr hq)), (f3.cb (lt_of_blk B2.out) (foot_not hDK2.out B2.out (by decide) (by decide))).trans (c62.trans c6.symm)⟩
  · rw [if_pos ha] at hR'
    subst hR'
    have ha1 : (ac != 0) = true := by simp [ha]
    have HAC := Lib.hid hac; clear hac ha
    go_enter Try.func91, Try.ntmps91
    go_wp2_with fail
    refine hacc.mono ?_; rintro e w1 ⟨rfl, rfl⟩
    rw [← HAC.out]
    go_wp2_with fail
    go_ret
    exact ⟨rfl, HA.out, Fr.refl _ _, rfl⟩

set_option maxRecDepth 100000 in
set_option maxHeartbeats 1000000 in
theorem step2_calls (p q : Value) (F : Dsk → Dsk) (hF : ∀ D : Dsk, (F D).length = D.length) (h : ShelfAt w O s S) (d : Int) (h0 : 0 ≤ d) (h1 : d < S.bays.length)
    (hcall : ∀ (L : Loc) (D : Dsk) (t : Int) (w1 : World), Fr O w w1 → DK w1 L D → Calls Try.prog 95 #[.agg #[L.ptr, .int .i64 t], p, q] w1 fun e w' => e = .returned (.tuple #[]) ∧ DiskAt w' L.g L.bd L.bc L.ba (F D) ∧ Fr L.foot w1 w') :
    Calls Try.prog 91 #[.pointer (some ⟨s, 0, none⟩), .int .i64 d, .func (.func 95) #[] #[p, q]] w fun e w' => e = .returned (.int .i64 (Shf0.step S d F).1) ∧ ShelfAt w' O s (Shf0.step S d F).2 ∧ Fr O w w' ∧ w'.cell? ⟨s, 6, none⟩ = w.cell? ⟨s, 6, none⟩ := by
  obtain ⟨k, rfl⟩ : ∃ k : Nat, d = k := ⟨d.toNat, by omega⟩
  have HA := Lib.hid h
  obtain ⟨bs, im, bv, iv, hin⟩ := h
  obtain ⟨hp1, hp2, hp3⟩ := hin.pos
  obtain ⟨vb, cap, cur, rfl, hvb, hcz, hOv, hcell⟩ := hin.open_
  have hk : k < bs.length := by omega
  obtain ⟨⟨L, b⟩, hx⟩ : ∃ x, bs[k]? = some x := ⟨_, List.getElem?_eq_getElem hk⟩
  obtain ⟨c0, c1⟩ := hcell k _ hx
  simp only at c0 c1
  have c6 : w.cell? ⟨s, 6, none⟩ = some (.slice (some ⟨vb, 0, none⟩) bs.length cap) := cell_of_blk hin.head
  have c9 : w.cell? ⟨s, 9, none⟩ = some (.bool S.fused) := cell_of_blk hin.head
  have c10 : w.cell? ⟨s, 10, none⟩ = some (.int .i64 S.left) := cell_of_blk hin.head
  have HB := Lib.hid hin.head
  have HIN := Lib.hid hin
  have HX := Lib.hid hx
  have HC := Lib.hid hcall; clear hcall
  have hacc := access_calls HA.out k h0 h1
  have hDK := Lib.hid (hin.kb _ (List.mem_of_getElem? hx))
  have k0 : (0 : Int) ≤ k := by omega
  have k1 : (k : Int) < bs.length := by omega
  have hs104 := lt_of_blk hin.head
  have hvlt := lt_of_blk hvb
  have hvs : vb ≠ s := fun e => by
    subst e; exact absurd (cells_type hvb hin.head) (by decide)
  have hOs := hin.os
  have HFt := Lib.hid (foot_in hin hx)
  clear hcell hin hvb hx hp3 hcz
  obtain ⟨ac, hac⟩ : ∃ ac, ac = Shf0.access S k := ⟨_, rfl⟩
  obtain ⟨R, hR⟩ : ∃ R, R = Shf0.step S k F := ⟨_, rfl⟩
  have hR' : R = if ac ≠ 0 then (ac, S) else if S.fused = true then (if S.left = 0 then (14, { S with off := true, fused := false }) else (0, Shf0.turnD { S with left := IntKind.i64.wrap (S.left - 1) } k F)) else (0, Shf0.turnD S k F) := by rw [hR, hac]; rfl
  rw [← hR]
  clear hR
  by_cases ha : ac = 0
  · rw [if_neg (by simp [ha])] at hR'
    have ha1 : (ac != 0) = false := by simp [ha]
    have HAC := Lib.hid hac; clear hac
    cases hf : S.fused with
    | false =>
      have hR2 : R = (0, Shf0.turnD S k F) := by rw [hR', if_neg (by rw [hf]; simp)]
      rw [hf] at c9
      subst hR2
      clear hR' ha
      go_enter Try.func91, Try.ntmps91
      go_wp2_with fail
      refine hacc.mono ?_; rintro e w1 ⟨rfl, rfl⟩
      rw [← HAC.out]
      go_wp2_with fail
      refine (HC.out L b.D b.st _ (Fr.refl _ _) hDK.out).mono ?_; rintro e w1 ⟨rfl, d1, f1⟩
      have D1 := Lib.hid d1; clear d1
      go_wp2_with fail
      go_ret
      exact ⟨rfl, ⟨_, _, _, _, HIN.out.turn HX.out f1 (hDK.out.turn D1.out (hF _) f1.size) (hF _)⟩, f1.mono (fun q _ hq => HFt.out q (.inr hq)), f1.cb hs104 (foot_not hDK.out HIN.out.head (by decide) (by decide))⟩
    | true =>
      rw [if_pos hf] at hR'
      rw [hf] at c9
      by_cases hl : S.left = 0
      · have hR2 : R = (14, { S with off := true, fused := false }) := by rw [hR', if_pos hl]
        subst hR2
        rw [hl] at c10
        clear hR' ha hl
        go_enter Try.func91, Try.ntmps91
        go_wp2_with fail
        refine hacc.mono ?_; rintro e w1 ⟨rfl, rfl⟩
        rw [← HAC.out]
        go_wp2_with (first
          | (refine im_store1 rfl 4 _ _ rfl (b := s) (j := 8) (v := .bool true) rfl rfl rfl (by kernel_rfl) HB.out (by simp [shelfC]) ?_; intro w2 b2 f2 z2; have B2 := Lib.hid b2; clear b2; clear z2)
          | (refine im_store1 rfl 4 _ _ rfl (b := s) (j := 9) (v := .bool false) rfl rfl rfl (by kernel_rfl) B2.out (by simp [shelfC]) ?_; intro w3 b3 f3 z3; have B3 := Lib.hid b3; clear b3; clear z3))
        go_ret
        exact ⟨rfl, ⟨_, _, _, _, HIN.out.setHead (S' := { S with off := true, fused := false }) (f2.trans f3) B3.out ⟨HIN.out.ok.cfg, HIN.out.ok.sec, HIN.out.ok.num, HIN.out.ok.bay, HIN.out.ok.len, HIN.out.ok.st, HIN.out.ok.img⟩ rfl rfl⟩, (f2.trans f3).mono (fun q _ hq => by rw [hq]; exact hOs), (cell_of_blk B3.out).trans c6.symm⟩
      · have hR2 : R = (0, Shf0.turnD { S with left := IntKind.i64.wrap (S.left - 1) } k F) := by rw [hR', if_neg hl]
        subst hR2
        have hl1 : (S.left == 0) = false := by simp [hl]
        obtain ⟨N, hN⟩ : ∃ N, N = IntKind.i64.wrap (S.left - 1) := ⟨_, rfl⟩
        rw [← hN]
        have HNN := Lib.hid hN
        have hN' := hN.symm
        clear hR' ha hl hN
        go_enter Try.func91, Try.ntmps91
        go_wp2_with fail
        refine hacc.mono ?_; rintro e w1 ⟨rfl, rfl⟩
        rw [← HAC.out]
        go_wp2_with (first
          | (refine im_store1 rfl 3 _ _ rfl (b := s) (j := 10) (v := .int .i64 N) rfl rfl rfl (by kernel_rfl) HB.out (by simp [shelfC]) ?_; intro w2 b2 f2 z2; have B2 := Lib.hid b2; clear b2; clear z2; have c62 : w2.cell? ⟨s, 6, none⟩ = some (.slice (some ⟨vb, 0, none⟩) bs.length cap) := cell_of_blk B2.out; have c02 := (f2.cb hvlt hvs).trans c0; have c12 := (f2.cb hvlt hvs).trans c1))
        have hin2 := HIN.out.setHead (S' := { S with left := N }) f2 B2.out ⟨HIN.out.ok.cfg, HIN.out.ok.sec, HIN.out.ok.num, HIN.out.ok.bay, HIN.out.ok.len, HIN.out.ok.st, HIN.out.ok.img⟩ rfl rfl
        have HIN2 := Lib.hid hin2; clear hin2
        have ff2 : Fr O w w2 := f2.mono fun q _ hq => by rw [hq]; exact hOs
        have hDK2 := Lib.hid (HIN2.out.kb _ (List.mem_of_getElem? HX.out))
        go_wp2_with fail
        refine (HC.out L b.D b.st _ ff2 hDK2.out).mono ?_; rintro e w3 ⟨rfl, d3, f3⟩
        have D3 := Lib.hid d3; clear d3
        go_wp2_with fail
        go_ret
        exact ⟨rfl, ⟨_, _, _, _, HIN2.out.turn HX.out f3 (hDK2.out.turn D3.out (hF _) f3.size) (hF _)⟩, ff2.trans (f3.mono fun q _ hq => HFt.out q (.inr hq)), (f3.cb (lt_of_blk B2.out) (foot_not hDK2.out B2.out (by decide) (by decide))).trans (c62.trans c6.symm)⟩
  · rw [if_pos ha] at hR'
    subst hR'
    have ha1 : (ac != 0) = true := by simp [ha]
    have HAC := Lib.hid hac; clear hac ha
    go_enter Try.func91, Try.ntmps91
    go_wp2_with fail
    refine hacc.mono ?_; rintro e w1 ⟨rfl, rfl⟩
    rw [← HAC.out]
    go_wp2_with fail
    go_ret
    exact ⟨rfl, HA.out, Fr.refl _ _, rfl⟩

end
end Go.Proofs.Ytmbkmfpnjpkakaa

namespace Go.Im
open Go
/-- A new variable of one cell. -/
theorem im_alloc1 {P : Program} {ops : Array Oper} {rest : List Oper} {o : Oper} {a : Act} {w : World} {Q : Exit → Act → World → Prop} (hg : o.guard = none) (t : TypeId) (hop : o.op = Op.alloc t) {z : Value} (hz : (zeroValue t).run P w = .ok z w) (hz1 : z.cells = #[z])
    (hK : ∀ w', w'.heap[w.heap.size]? = some (.cells #[z] t (0, 0)) → Fr (fun _ => False) w w' → w'.heap.size = w.heap.size + 1 → wpList P ops Q rest (a.put o.dst (.pointer (some ⟨w.heap.size, 0, none⟩))) w') :
    wpList P ops Q (o :: rest) a w := by
  refine wpList_plain hg fun K' hK' => ?_
  unfold Oper.wp
  simp only [execOp, hop, Instr.alloc, Sem.run_bind, hz, Result.andThen_ok, newVar, newRow, hz1, run_newObj, Sem.run_pure]
  refine hK' _ _ (hK (w.alloc _) (heap_alloc_new w _) ((Fr.refl _ _).alloc _) (by simp))
end Go.Im
namespace Go.Shf0
theorem state_ne {S : Shelf} {d : Int} (h : state S d ≠ 0) : 0 ≤ d ∧ d < S.bays.length := by
  unfold state at h
  split at h
  · assumption
  · exact absurd rfl h
theorem state_pos {S : Shelf} (hk : Ok S) {d : Int} (h0 : 0 ≤ d) (h1 : d < S.bays.length) : state S d = 1 ∨ state S d = 2 ∨ state S d = 3 := by
  unfold state
  rw [if_pos ⟨h0, h1⟩]
  have hl : d.toNat < S.bays.length := by omega
  rw [List.getElem?_eq_getElem hl]
  exact hk.st _ (List.getElem_mem hl)
theorem number_bd {S : Shelf} (hk : Ok S) {p : Place} (h : there S p) : 0 ≤ number S p ∧ number S p < sectors S.cfg := by
  obtain ⟨hs, a1, a4, i0, i1⟩ := h
  obtain ⟨-, -, ⟨r0, -⟩, -, ⟨l0, -⟩, ⟨m0, -⟩, -⟩ := hk.cfg
  have hn : number S p = offset S.cfg p.area + p.index := by unfold number; rw [if_pos ⟨hs, a1, a4, i0, i1⟩]
  rw [hn]
  have : p.area = 1 ∨ p.area = 2 ∨ p.area = 3 ∨ p.area = 4 := by omega
  rcases this with h | h | h | h <;> rw [h] at i1 ⊢ <;> simp [offset, sizes, sectors] at i1 ⊢ <;> omega
theorem number_neg {S : Shelf} (hk : Ok S) (p : Place) : number S p < 0 ↔ ¬ there S p := by
  by_cases h : there S p
  · have := (number_bd hk h).1
    simp [h]; omega
  · unfold number; simp [h]
theorem there_disk {S : Shelf} {p : Place} (h : there S p) : 0 ≤ p.disk ∧ p.disk < S.bays.length := state_ne h.1
end Go.Shf0
namespace Go.Proofs.Ytmbkmfpnjpkakaa
open Go.RowKit Go.Im Go.Dsk0

theorem flush1_calls (L : Loc) (D : Dsk) (t : Int) (w : World) (h : DK w L D) : Calls Try.prog 92 #[.agg #[L.ptr, .int .i64 t]] w fun e w' => e = .returned (.tuple #[]) ∧ DiskAt w' L.g L.bd L.bc L.ba (Dsk0.flush D) ∧ Fr L.foot w w' := by
  have H := Lib.hid h; clear h
  unfold Loc.ptr
  go_enter Try.func92, Try.ntmps92
  go_wp2_with (first
    | (refine im_box rfl 106 _ rfl rfl ?_; intro w1 b1 f1 z1; have q0 : w1.cell? ⟨w.heap.size, 0, none⟩ = some (.pointer (some ⟨L.g, 0, none⟩)) := cell_of_blk b1; clear b1 z1))
  refine (flush_calls L.g L.bd L.bc L.ba D w1 (H.out.keep f1).disk).mono ?_; rintro e w2 ⟨rfl, d2, f2⟩
  have D2 := Lib.hid d2; clear d2
  go_wp2_with fail
  go_end0
  exact ⟨rfl, D2.out, f1.no.trans f2⟩

theorem write1_calls (L : Loc) (D : Dsk) (t : Int) (n : Int) (x : ByteArray) (nb sb : Nat) (w : World) (h : DK w L D) (hn : w.cell? ⟨nb, 0, none⟩ = some (.int .i64 n)) (hs : w.cell? ⟨sb, 0, none⟩ = some (.string x)) :
    Calls Try.prog 95 #[.agg #[L.ptr, .int .i64 t], .pointer (some ⟨nb, 0, none⟩), .pointer (some ⟨sb, 0, none⟩)] w fun e w' => e = .returned (.tuple #[]) ∧ DiskAt w' L.g L.bd L.bc L.ba (Dsk0.write D n x.data.toList).2 ∧ Fr L.foot w w' := by
  have H := Lib.hid h; clear h
  have hnl : nb < w.heap.size := World.block_lt_of_cell? w ⟨nb, 0, none⟩ hn
  have hsl : sb < w.heap.size := World.block_lt_of_cell? w ⟨sb, 0, none⟩ hs
  unfold Loc.ptr
  go_enter Try.func95, Try.ntmps95
  go_wp2_with (first
    | (refine im_box rfl 106 _ rfl rfl ?_; intro w1 b1 f1 z1; have q0 : w1.cell? ⟨w.heap.size, 0, none⟩ = some (.pointer (some ⟨L.g, 0, none⟩)) := cell_of_blk b1; have q1 := (f1.cb hnl (fun h => h)).trans hn; have q2 := (f1.cb hsl (fun h => h)).trans hs; clear b1 z1))
  refine (write_calls L.g L.bd L.bc L.ba D n x w1 (H.out.keep f1).disk).mono ?_; rintro e w2 ⟨rfl, d2, f2⟩
  have D2 := Lib.hid d2; clear d2
  go_wp2_with fail
  go_end0
  exact ⟨rfl, D2.out, f1.no.trans f2⟩

theorem write_length (D : Dsk) (n : Int) (l : List UInt8) : (Dsk0.write D n l).2.length = D.length := by
  unfold Dsk0.write
  split
  · split <;> simp [clr, setc]
  · rfl
theorem flush_length (D : Dsk) : (Dsk0.flush D).length = D.length := by simp [Dsk0.flush]

section
variable {w : World} {O : Nat → Prop} {s : Nat} {S : Shf0.Shelf}

theorem sflush_calls (h : ShelfAt w O s S) (d : Int) : Calls Try.prog 49 #[.pointer (some ⟨s, 0, none⟩), .int .i64 d] w fun e w' => e = .returned (.int .i64 (Shf0.flush S d).1) ∧ ShelfAt w' O s (Shf0.flush S d).2 ∧ Fr O w w' ∧ w'.cell? ⟨s, 6, none⟩ = w.cell? ⟨s, 6, none⟩ := by
  have H := Lib.hid h; clear h
  obtain ⟨R, hR⟩ : ∃ R, R = Shf0.flush S d := ⟨_, rfl⟩
  rw [← hR]
  obtain ⟨st, hst⟩ : ∃ st, st = Shf0.state S d := ⟨_, rfl⟩
  have hR' : R = if st = 0 then (1, S) else Shf0.step S d Dsk0.flush := by rw [hR, hst]; rfl
  clear hR
  by_cases h0 : st = 0
  · rw [if_pos h0] at hR'
    subst hR'
    have hb : (st == 0) = true := by simp [h0]
    have HST := Lib.hid hst; clear hst h0
    go_enter Try.func49, Try.ntmps49
    go_wp2_with fail
    refine (state_calls H.out d).mono ?_; rintro e w1 ⟨rfl, rfl⟩
    rw [← HST.out]
    go_wp2_with fail
    go_ret
    exact ⟨rfl, H.out, Fr.refl _ _, rfl⟩
  · rw [if_neg h0] at hR'
    have hd := Shf0.state_ne (S := S) (d := d) (by rw [← hst]; exact h0)
    have hb : (st == 0) = false := by simp [h0]
    have HST := Lib.hid hst; clear hst h0
    have hstep := step0_calls Dsk0.flush flush_length H.out d hd.1 hd.2 (fun L D t w1 _ hk => flush1_calls L D t w1 hk)
    rw [← hR'] at hstep
    clear hR'
    go_enter Try.func49, Try.ntmps49
    go_wp2_with fail
    refine (state_calls H.out d).mono ?_; rintro e w1 ⟨rfl, rfl⟩
    rw [← HST.out]
    go_wp2_with fail
    refine hstep.mono ?_; rintro e w1 ⟨rfl, s1, f1, b1⟩
    have S1 := Lib.hid s1; clear s1
    have B1 := Lib.hid b1; clear b1
    go_wp2_with fail
    go_ret
    exact ⟨rfl, S1.out, f1, B1.out⟩

theorem fuse_calls (h : ShelfAt w O s S) (n : Int) : Calls Try.prog 48 #[.pointer (some ⟨s, 0, none⟩), .int .i64 n] w fun e w' => e = .returned (.tuple #[]) ∧ ShelfAt w' O s (Shf0.fuse S n) ∧ Fr O w w' := by
  obtain ⟨bs, im, bv, iv, hin⟩ := h
  have HB := Lib.hid hin.head
  have HIN := Lib.hid hin
  have hOs := hin.os
  clear hin
  go_enter Try.func48, Try.ntmps48
  go_wp2_with (first
    | (refine im_store1 rfl 4 _ _ rfl (b := s) (j := 9) (v := .bool (decide (0 ≤ n))) rfl rfl rfl (by kernel_rfl) HB.out (by simp [shelfC]) ?_; intro w2 b2 f2 z2; have B2 := Lib.hid b2; clear b2; clear z2)
    | (refine im_store1 rfl 3 _ _ rfl (b := s) (j := 10) (v := .int .i64 n) rfl rfl rfl (by kernel_rfl) B2.out (by simp [shelfC]) ?_; intro w3 b3 f3 z3; have B3 := Lib.hid b3; clear b3; clear z3))
  go_end0
  exact ⟨rfl, ⟨_, _, _, _, HIN.out.setHead (S' := Shf0.fuse S n) (f2.trans f3) B3.out ⟨HIN.out.ok.cfg, HIN.out.ok.sec, HIN.out.ok.num, HIN.out.ok.bay, HIN.out.ok.len, HIN.out.ok.st, HIN.out.ok.img⟩ rfl rfl⟩, (f2.trans f3).mono fun q _ hq => by rw [hq]; exact hOs⟩

set_option maxRecDepth 100000 in
set_option maxHeartbeats 1000000 in
theorem swrite_calls (h : ShelfAt w O s S) (p : Shf0.Place) (x : ByteArray) : Calls Try.prog 53 #[.pointer (some ⟨s, 0, none⟩), placeV p, .string x] w fun e w' => e = .returned (.int .i64 (Shf0.write S p x.data.toList).1) ∧ ShelfAt w' O s (Shf0.write S p x.data.toList).2 ∧ Fr O w w' := by
  have hlx : x.data.toList.length = x.size := rfl
  have H := Lib.hid h
  obtain ⟨num, hnum⟩ : ∃ n, n = Shf0.number S p := ⟨_, rfl⟩
  obtain ⟨R, hR⟩ : ∃ R, R = Shf0.write S p x.data.toList := ⟨_, rfl⟩
  have hR' : R = if Shf0.there S p ∧ x.size = 64 then Shf0.step S p.disk (fun D => (Dsk0.write D num x.data.toList).2) else (1, S) := by rw [hR, hnum]; rfl
  rw [← hR]
  clear hR
  have hneg := Shf0.number_neg h.ok p
  rw [← hnum] at hneg
  obtain ⟨d, area, idx⟩ := p
  have HNUM := Lib.hid hnum; clear hnum
  have hOlt := Lib.hid (show ∀ q, O q → q < w.heap.size from fun q hq => h.olt hq)
  by_cases ht : Shf0.there S ⟨d, area, idx⟩
  · have hn0 : ¬ num < 0 := fun h => hneg.1 h ht
    have hdk := Shf0.there_disk ht
    simp only at hdk
    clear hneg
    by_cases h64 : x.size = 64
    · rw [if_pos ⟨ht, h64⟩] at hR'
      have HR := Lib.hid hR'; clear hR'
      have hb : ((x.size : Int) != 64) = false := by simp [h64]
      clear ht h64 hlx h
      unfold placeV
      simp only
      go_enter Try.func53, Try.ntmps53
      go_wp2_with (first
        | (refine im_box rfl 25 _ rfl rfl ?_; intro w1 b1 f1 z1; have Z1 := Lib.hid z1; clear z1; obtain ⟨p0, p1, p2⟩ := plc_cells (p := ⟨d, area, idx⟩) b1; have hl1 := lt_of_blk b1; clear b1)
        | (refine im_box rfl 9 _ rfl rfl ?_; intro w2 b2 f2 z2; have Z2 := Lib.hid z2; clear z2; have q0 : w2.cell? ⟨w1.heap.size, 0, none⟩ = some (.string x) := cell_of_blk b2; have hl2 := lt_of_blk b2; clear b2; have p0' := (f2.cb hl1 (fun h => h)).trans p0; have p1' := (f2.cb hl1 (fun h => h)).trans p1; have p2' := (f2.cb hl1 (fun h => h)).trans p2))
      have f12 := f1.trans f2
      refine (number_calls ⟨d, area, idx⟩ w2 (H.out.keep f12)).mono ?_; rintro e w3 ⟨rfl, f3⟩
      rw [← HNUM.out]
      go_wp2_with (first
        | (refine im_alloc1 rfl 3 rfl (zero3 _) rfl ?_; intro w4 b4 f4 z4; have B4 := Lib.hid b4; clear b4; have Z4 := Lib.hid z4; clear z4)
        | (refine im_store1 rfl 3 _ _ rfl (v := .int .i64 num) rfl rfl rfl (by kernel_rfl) B4.out (by simp) ?_; intro w5 b5 f5 z5; have r0 : w5.cell? ⟨w3.heap.size, 0, none⟩ = some (.int .i64 num) := cell_of_blk b5; have hl5 := lt_of_blk b5; clear b5; have Z5 := Lib.hid z5; clear z5; have hls := f3.size; have g5 : Fr (fun q => w3.heap.size ≤ q) w2 w5 := (f3.no.trans f4.no).trans (f5.mono fun q _ hq => by omega); have q05 := (g5.cb hl2 (by omega)).trans q0; have p05 := (g5.cb (Nat.lt_of_lt_of_le hl1 f2.size) (by omega)).trans p0'))
      have hw3 := f12.size
      have hls := f3.size
      have hw1 := f1.size
      have ff : Fr (fun _ => False) w w5 := ((f12.trans f3).trans f4).trans' f5 (fun _ _ h => h) (fun q hq h => by omega)
      have H5 := Lib.hid (H.out.keep ff)
      have hstep := step2_calls (.pointer (some ⟨w3.heap.size, 0, none⟩)) (.pointer (some ⟨w1.heap.size, 0, none⟩)) (fun D => (Dsk0.write D num x.data.toList).2) (fun D => write_length D num _) H5.out d hdk.1 hdk.2 (fun L D t w6 hfr hk => write1_calls L D t num x _ _ w6 hk ((hfr.cb hl5 (fun hO => by have := hOlt.out _ hO; omega)).trans r0) ((hfr.cb (Nat.lt_of_lt_of_le hl2 g5.size) (fun hO => by have := hOlt.out _ hO; omega)).trans q05))
      rw [← HR.out] at hstep
      refine hstep.mono ?_; rintro e w6 ⟨rfl, s6, f6, -⟩
      have S6 := Lib.hid s6; clear s6
      have FF := Lib.hid (ff.no.trans f6)
      clear hstep f6 f3 f4 f5 g5 ff f12 f1 f2
      go_wp2_with fail
      go_ret
      exact ⟨rfl, S6.out, FF.out⟩
    · rw [if_neg (fun h => h64 h.2)] at hR'
      subst hR'
      have hb : ((x.size : Int) != 64) = true := by simp; omega
      clear ht h64 hlx h hdk hOlt
      unfold placeV
      simp only
      go_enter Try.func53, Try.ntmps53
      go_wp2_with (first
        | (refine im_box rfl 25 _ rfl rfl ?_; intro w1 b1 f1 z1; have Z1 := Lib.hid z1; clear z1; obtain ⟨p0, p1, p2⟩ := plc_cells (p := ⟨d, area, idx⟩) b1; have hl1 := lt_of_blk b1; clear b1)
        | (refine im_box rfl 9 _ rfl rfl ?_; intro w2 b2 f2 z2; have Z2 := Lib.hid z2; clear z2; have q0 : w2.cell? ⟨w1.heap.size, 0, none⟩ = some (.string x) := cell_of_blk b2; have hl2 := lt_of_blk b2; clear b2; have p0' := (f2.cb hl1 (fun h => h)).trans p0; have p1' := (f2.cb hl1 (fun h => h)).trans p1; have p2' := (f2.cb hl1 (fun h => h)).trans p2))
      have f12 := f1.trans f2
      refine (number_calls ⟨d, area, idx⟩ w2 (H.out.keep f12)).mono ?_; rintro e w3 ⟨rfl, f3⟩
      rw [← HNUM.out]
      go_wp2_with (first
        | (refine im_alloc1 rfl 3 rfl (zero3 _) rfl ?_; intro w4 b4 f4 z4; have B4 := Lib.hid b4; clear b4; have Z4 := Lib.hid z4; clear z4)
        | (refine im_store1 rfl 3 _ _ rfl (v := .int .i64 num) rfl rfl rfl (by kernel_rfl) B4.out (by simp) ?_; intro w5 b5 f5 z5; have r0 : w5.cell? ⟨w3.heap.size, 0, none⟩ = some (.int .i64 num) := cell_of_blk b5; have hl5 := lt_of_blk b5; clear b5; have Z5 := Lib.hid z5; clear z5; have hls := f3.size; have g5 : Fr (fun q => w3.heap.size ≤ q) w2 w5 := (f3.no.trans f4.no).trans (f5.mono fun q _ hq => by omega); have q05 := (g5.cb hl2 (by omega)).trans q0; have p05 := (g5.cb (Nat.lt_of_lt_of_le hl1 f2.size) (by omega)).trans p0'))
      have hls := f3.size
      have ff : Fr (fun _ => False) w w5 := ((f12.trans f3).trans f4).trans' f5 (fun _ _ h => h) (fun q hq h => by have := f12.size; omega)
      go_ret
      exact ⟨rfl, H.out.keep ff, ff.no⟩
  · rw [if_neg (fun h => ht h.1)] at hR'
    subst hR'
    have hn0 : num < 0 := hneg.2 ht
    clear hneg
    clear ht hlx h hOlt
    unfold placeV
    simp only
    go_enter Try.func53, Try.ntmps53
    go_wp2_with (first
      | (refine im_box rfl 25 _ rfl rfl ?_; intro w1 b1 f1 z1; have Z1 := Lib.hid z1; clear z1; obtain ⟨p0, p1, p2⟩ := plc_cells (p := ⟨d, area, idx⟩) b1; have hl1 := lt_of_blk b1; clear b1)
      | (refine im_box rfl 9 _ rfl rfl ?_; intro w2 b2 f2 z2; have Z2 := Lib.hid z2; clear z2; have q0 : w2.cell? ⟨w1.heap.size, 0, none⟩ = some (.string x) := cell_of_blk b2; have hl2 := lt_of_blk b2; clear b2; have p0' := (f2.cb hl1 (fun h => h)).trans p0; have p1' := (f2.cb hl1 (fun h => h)).trans p1; have p2' := (f2.cb hl1 (fun h => h)).trans p2))
    have f12 := f1.trans f2
    refine (number_calls ⟨d, area, idx⟩ w2 (H.out.keep f12)).mono ?_; rintro e w3 ⟨rfl, f3⟩
    rw [← HNUM.out]
    go_wp2_with (first
      | (refine im_alloc1 rfl 3 rfl (zero3 _) rfl ?_; intro w4 b4 f4 z4; have B4 := Lib.hid b4; clear b4; have Z4 := Lib.hid z4; clear z4)
      | (refine im_store1 rfl 3 _ _ rfl (v := .int .i64 num) rfl rfl rfl (by kernel_rfl) B4.out (by simp) ?_; intro w5 b5 f5 z5; have r0 : w5.cell? ⟨w3.heap.size, 0, none⟩ = some (.int .i64 num) := cell_of_blk b5; have hl5 := lt_of_blk b5; clear b5; have Z5 := Lib.hid z5; clear z5; have hls := f3.size; have g5 : Fr (fun q => w3.heap.size ≤ q) w2 w5 := (f3.no.trans f4.no).trans (f5.mono fun q _ hq => by omega); have q05 := (g5.cb hl2 (by omega)).trans q0; have p05 := (g5.cb (Nat.lt_of_lt_of_le hl1 f2.size) (by omega)).trans p0'))
    have hls := f3.size
    have ff : Fr (fun _ => False) w w5 := ((f12.trans f3).trans f4).trans' f5 (fun _ _ h => h) (fun q hq h => by have := f12.size; omega)
    go_ret
    exact ⟨rfl, H.out.keep ff, ff.no⟩
end
end Go.Proofs.Ytmbkmfpnjpkakaa

namespace Go.Shf0
theorem step_len (S : Shelf) (d : Int) (F : Dsk0.Dsk → Dsk0.Dsk) : (step S d F).2.bays.length = S.bays.length := by
  unfold step turnD
  split
  · rfl
  · split
    · split <;> simp
    · simp
theorem flush_len (S : Shelf) (d : Int) : (flush S d).2.bays.length = S.bays.length := by
  unfold flush
  split
  · rfl
  · exact step_len _ _ _
theorem flushFrom_succ (S : Shelf) (k n : Nat) : flushFrom S k (n + 1) = if state S k ≠ 1 then flushFrom S (k + 1) n else if (flush S k).1 ≠ 0 then flush S k else flushFrom (flush S k).2 (k + 1) n := rfl
theorem access_zero {S : Shelf} {d : Int} (h : access S d = 0) : S.off = false ∧ state S d = 1 := by
  unfold access at h
  split at h
  · simp at h
  · rename_i ho
    split at h
    · simp at h
    · rename_i hs
      exact ⟨by simpa using ho, by simpa using hs⟩
end Go.Shf0
namespace Go.Proofs.Ytmbkmfpnjpkakaa
open Go.RowKit Go.Im Go.Dsk0
section
variable {w : World} {O : Nat → Prop} {s : Nat} {S : Shf0.Shelf}

set_option maxRecDepth 100000 in
set_option maxHeartbeats 1000000 in
theorem sread_calls (h : ShelfAt w O s S) (p : Shf0.Place) : Calls Try.prog 52 #[.pointer (some ⟨s, 0, none⟩), placeV p] w fun e w' => e = .returned (.tuple #[.string ⟨(Shf0.read S p).1.toArray⟩, .int .i64 (Shf0.read S p).2]) ∧ Fr (fun _ => False) w w' := by
  have H := Lib.hid h
  obtain ⟨num, hnum⟩ : ∃ n, n = Shf0.number S p := ⟨_, rfl⟩
  obtain ⟨ac, hac⟩ : ∃ n, n = Shf0.access S p.disk := ⟨_, rfl⟩
  obtain ⟨R, hR⟩ : ∃ R, R = Shf0.read S p := ⟨_, rfl⟩
  have hR' : R = if Shf0.there S p then (if ac ≠ 0 then ([], ac) else Dsk0.read (Shf0.bayD S p.disk.toNat) num) else ([], 1) := by rw [hR, hnum, hac]; rfl
  rw [← hR]
  clear hR
  have hneg := Shf0.number_neg h.ok p
  rw [← hnum] at hneg
  obtain ⟨d, area, idx⟩ := p
  simp only at hac hR'
  have HNUM := Lib.hid hnum; clear hnum
  have HAC := Lib.hid hac; clear hac
  by_cases ht : Shf0.there S ⟨d, area, idx⟩
  · rw [if_pos ht] at hR'
    have hn0 : ¬ num < 0 := fun h => hneg.1 h ht
    have hdk := Shf0.there_disk ht
    simp only at hdk
    clear hneg ht
    by_cases ha : ac = 0
    · rw [if_neg (by simp [ha])] at hR'
      have hb : (ac != 0) = false := by simp [ha]
      clear ha
      obtain ⟨k, rfl⟩ : ∃ k : Nat, d = k := ⟨d.toNat, by omega⟩
      rw [Int.toNat_natCast] at hR'
      obtain ⟨bs, im, bv, iv, hin⟩ := h
      obtain ⟨hp1, hp2, hp3⟩ := hin.pos
      obtain ⟨vb, cap, cur, rfl, hvb, hcz, hOv, hcell⟩ := hin.open_
      have hk : k < bs.length := by omega
      obtain ⟨⟨L, b⟩, hx⟩ : ∃ x, bs[k]? = some x := ⟨_, List.getElem?_eq_getElem hk⟩
      obtain ⟨c0, c1⟩ := hcell k _ hx
      simp only at c0 c1
      rw [bayD_at hin hx] at hR'
      have hDK := Lib.hid (hin.kb _ (List.mem_of_getElem? hx))
      simp only at hR' hDK
      have HR := Lib.hid hR'; clear hR'
      have c6 : w.cell? ⟨s, 6, none⟩ = some (.slice (some ⟨vb, 0, none⟩) bs.length cap) := cell_of_blk hin.head
      have hslt := lt_of_blk hin.head
      have hvlt := lt_of_blk hvb
      have k0 : (0 : Int) ≤ k := by omega
      have k1 : (k : Int) < bs.length := by omega
      unfold Loc.ptr at c0
      clear hcell hin hx hvb hcz
      unfold placeV
      simp only
      go_enter Try.func52, Try.ntmps52
      go_wp2_with (first
        | (refine im_box rfl 25 _ rfl rfl ?_; intro w1 b1 f1 z1; have Z1 := Lib.hid z1; clear z1; obtain ⟨p0, p1, p2⟩ := plc_cells (p := ⟨(k : Int), area, idx⟩) b1; have hl1 := lt_of_blk b1; clear b1))
      refine (number_calls ⟨(k : Int), area, idx⟩ w1 (H.out.keep f1)).mono ?_; rintro e w2 ⟨rfl, f2⟩
      rw [← HNUM.out]
      have p0' := (f2.cb hl1 (fun h => h)).trans p0
      go_wp2_with fail
      refine (access_calls (H.out.keep (f1.trans f2)) (k : Int) hdk.1 hdk.2).mono ?_; rintro e w3 ⟨rfl, rfl⟩
      rw [← HAC.out]
      go_wp2_with fail
      have f12 := f1.trans f2
      have c6' := (f12.cb hslt (fun h => h)).trans c6
      have c0' := (f12.cb hvlt (fun h => h)).trans c0
      clear c6 c0 p0 p1 p2
      refine wp_region_seq (fun W => W.cell? ⟨s, 6, none⟩ = some (.slice (some ⟨vb, 0, none⟩) bs.length cap) ∧ W.cell? ⟨vb, k * 2, none⟩ = some (.pointer (some ⟨L.g, 0, none⟩)) ∧ W.cell? ⟨w.heap.size, 0, none⟩ = some (.int .i64 k)) [0, 1, 2, 3, 4, 5, 6, 7, 8, 9, 10, 11, 12, 13, 14] [10, 13, 14] (by kernel_rfl) (by kernel_rfl) (by kernel_rfl) ⟨c6', c0', p0'⟩ ?_
      simp only [pickOps, List.filterMap_cons, List.filterMap_nil, List.getElem?_toArray, List.getElem?_cons_zero, List.getElem?_cons_succ, Option.map_some]
      repeat (refine seqH_read (v := ?_) (by rfl) (by rfl) ?_ ?_; rotate_left; (focus (intro W hS; (try dsimp only at hS); obtain ⟨s1, s2, s3⟩ := hS; go_simp; try with_reducible rfl)); simp only [Act.put, List.setIfInBounds_toArray, List.set_cons_zero, List.set_cons_succ])
      refine seqH_eff (by rfl) (by rfl) fun K hK => ?_
      refine wp_callC 30 #[.pointer (some ⟨L.g, 0, none⟩), .int .i64 num] (by go_simp) (R := fun v w' => v = .tuple #[.string ⟨R.1.toArray⟩, .int .i64 R.2] ∧ Fr (fun _ => False) w2 w') ((read_calls L.g L.bd L.bc L.ba b.D num w2.drew ((hDK.out.keep f12).keep (Fr.refl _ w2).drew).disk).mono (by rintro e w' ⟨rfl, hf⟩; exact ⟨_, rfl, by rw [HR.out], hf.undrew⟩)) ?_
      rintro v w4 ⟨rfl, f4⟩
      refine hK.out _ _ ⟨(f4.cb (Nat.lt_of_lt_of_le hslt f12.size) (fun h => h)).trans c6', (f4.cb (Nat.lt_of_lt_of_le hvlt f12.size) (fun h => h)).trans c0', (f4.cb (Nat.lt_of_lt_of_le hl1 f2.size) (fun h => h)).trans p0'⟩ ?_
      simp only [Act.put, List.setIfInBounds_toArray, List.set_cons_zero, List.set_cons_succ]
      repeat (refine seqH_read (v := ?_) (by rfl) (by rfl) ?_ ?_; rotate_left; (focus (intro W hS; (try dsimp only at hS); obtain ⟨s1, s2, s3⟩ := hS; go_simp; try with_reducible rfl)); simp only [Act.put, List.setIfInBounds_toArray, List.set_cons_zero, List.set_cons_succ])
      have FF := Lib.hid (f12.trans f4)
      refine seqH_eff (by rfl) (by rfl) fun K hK => ?_
      unfold Oper.wp
      go_simp
      refine hK.out _ _ ⟨(f4.cb (Nat.lt_of_lt_of_le hslt f12.size) (fun h => h)).trans c6', (f4.cb (Nat.lt_of_lt_of_le hvlt f12.size) (fun h => h)).trans c0', (f4.cb (Nat.lt_of_lt_of_le hl1 f2.size) (fun h => h)).trans p0'⟩ ?_
      (try simp only [Act.put, List.setIfInBounds_toArray, List.set_cons_zero, List.set_cons_succ])
      refine seqH_eff (by rfl) (by rfl) fun K hK => ?_
      unfold Oper.wp
      go_simp
      refine hK.out _ _ ⟨(f4.cb (Nat.lt_of_lt_of_le hslt f12.size) (fun h => h)).trans c6', (f4.cb (Nat.lt_of_lt_of_le hvlt f12.size) (fun h => h)).trans c0', (f4.cb (Nat.lt_of_lt_of_le hl1 f2.size) (fun h => h)).trans p0'⟩ ?_
      refine seqH_nil ?_
      clear c6' c0' p0' f4 f12 f1 f2 HR hK
      go_wp2_with fail
      go_ret2
      exact ⟨rfl, FF.out⟩
    · rw [if_pos ha] at hR'
      subst hR'
      have hb : (ac != 0) = true := by simp [ha]
      clear ha h
      unfold placeV
      simp only
      go_enter Try.func52, Try.ntmps52
      go_wp2_with (first
        | (refine im_box rfl 25 _ rfl rfl ?_; intro w1 b1 f1 z1; have Z1 := Lib.hid z1; clear z1; obtain ⟨p0, p1, p2⟩ := plc_cells (p := ⟨d, area, idx⟩) b1; have hl1 := lt_of_blk b1; clear b1))
      refine (number_calls ⟨d, area, idx⟩ w1 (H.out.keep f1)).mono ?_; rintro e w2 ⟨rfl, f2⟩
      rw [← HNUM.out]
      have p0' := (f2.cb hl1 (fun h => h)).trans p0
      go_wp2_with fail
      refine (access_calls (H.out.keep (f1.trans f2)) d hdk.1 hdk.2).mono ?_; rintro e w3 ⟨rfl, rfl⟩
      rw [← HAC.out]
      go_wp2_with fail
      go_ret2
      exact ⟨rfl, f1.trans f2⟩
  · rw [if_neg ht] at hR'
    subst hR'
    have hn0 : num < 0 := hneg.2 ht
    clear hneg ht h
    unfold placeV
    simp only
    go_enter Try.func52, Try.ntmps52
    go_wp2_with (first
      | (refine im_box rfl 25 _ rfl rfl ?_; intro w1 b1 f1 z1; have Z1 := Lib.hid z1; clear z1; obtain ⟨p0, p1, p2⟩ := plc_cells (p := ⟨d, area, idx⟩) b1; have hl1 := lt_of_blk b1; clear b1))
    refine (number_calls ⟨d, area, idx⟩ w1 (H.out.keep f1)).mono ?_; rintro e w2 ⟨rfl, f2⟩
    rw [← HNUM.out]
    go_wp2_with fail
    go_ret2
    exact ⟨rfl, f1.trans f2⟩

theorem zero106 (w : World) : (zeroValue 106).run Try.prog w = .ok (.agg #[.pointer none, .int .i64 0]) w := by kernel_rfl
theorem info106 : (Try.prog.info? 106).map (·.size) = some 2 := by kernel_rfl
theorem bay_one (v : Value) (hv : v.oneCell' = true) (t : Int) : (#[v, .int .i64 t] : Array Value).all (·.oneCell') = true := by simp [hv]; rfl

set_option maxRecDepth 100000 in
set_option maxHeartbeats 1000000 in
theorem flushAll_calls (h : ShelfAt w O s S) : Calls Try.prog 51 #[.pointer (some ⟨s, 0, none⟩)] w fun e w' => e = .returned (.int .i64 (Shf0.flushAll S).1) ∧ ShelfAt w' O s (Shf0.flushAll S).2 ∧ Fr O w w' := by
  have H := Lib.hid h
  obtain ⟨R, hR⟩ : ∃ R, R = Shf0.flushAll S := ⟨_, rfl⟩
  have hR' : R = if S.off = true then (14, S) else Shf0.flushFrom S 0 S.bays.length := by rw [hR]; rfl
  rw [← hR]
  clear hR
  obtain ⟨bs, im, bv, iv, hin⟩ := h
  obtain ⟨hp1, hp2, hp3⟩ := hin.pos
  obtain ⟨vb, cap, cur, rfl, hvb, hcz, hOv, hcell⟩ := hin.open_
  have c6 : w.cell? ⟨s, 6, none⟩ = some (.slice (some ⟨vb, 0, none⟩) bs.length cap) := cell_of_blk hin.head
  have c8 : w.cell? ⟨s, 8, none⟩ = some (.bool S.off) := cell_of_blk hin.head
  have hOlt := Lib.hid (show ∀ q, O q → q < w.heap.size from fun q hq => hin.olt q hq)
  clear hcell hin hvb hcz
  cases hoff : S.off with
  | true =>
    rw [if_pos hoff] at hR'
    rw [hoff] at c8
    subst hR'
    go_enter Try.func51, Try.ntmps51
    go_wp2_with fail
    go_ret
    exact ⟨rfl, H.out, Fr.refl _ _⟩
  | false =>
    rw [if_neg (by rw [hoff]; simp)] at hR'
    rw [hoff] at c8
    rw [← hp3] at hR'
    have HR := Lib.hid hR'; clear hR' hoff
    have hlb : S.bays.length = bs.length := hp3.symm
    have HLB := Lib.hid hlb; clear hlb
    clear hp3
    go_enter Try.func51, Try.ntmps51
    go_wp2_with fail
    go_loopg [15] bs.length (fun m t wr => ∃ (k : Nat) (T : Shf0.Shelf), m + k = bs.length ∧ t = .int .i64 k ∧ ShelfAt wr O s T ∧ T.bays.length = bs.length ∧ wr.cell? ⟨s, 6, none⟩ = some (.slice (some ⟨vb, 0, none⟩) bs.length cap) ∧ R = Shf0.flushFrom T k m ∧ Fr O w wr)
    case atStart => exact ⟨0, S, rfl, rfl, H.out, HLB.out, c6, HR.out, Fr.refl _ _⟩
    case round =>
      obtain ⟨k, T, hm, rfl, hT, hTl, c6r, hRT, hfr⟩ := hrel
      have HM := Lib.hid hm; clear hm
      have HT := Lib.hid hT
      have HRT := Lib.hid hRT; clear hRT
      have HTL := Lib.hid hTl; clear hTl
      have hrs := hfr.size
      by_cases hk : k < bs.length
      · obtain ⟨bs', im', bv', iv', hin⟩ := hT
        obtain ⟨gk', hgk⟩ : ∃ j, gk = j + 1 := ⟨gk - 1, by have := HM.out; omega⟩
        have hbl : bs'.length = bs.length := by rw [hin.pos.2.2]; exact HTL.out
        have hbv : bv' = .slice (some ⟨vb, 0, none⟩) bs.length cap := by
          have e1 : wr.cell? ⟨s, 6, none⟩ = some bv' := cell_of_blk hin.head
          rw [c6r] at e1; exact (Option.some.inj e1).symm
        obtain ⟨vb2, cap2, cur2, hbv2, hvb2, hcz2, hOv2, hcell⟩ := hin.open_
        have hve : vb2 = vb := by
          rw [hbv] at hbv2
          injection hbv2 with e1
          injection e1 with e1
          injection e1 with e1
          exact e1.symm
        subst hve
        clear hbv2
        obtain ⟨⟨L, b⟩, hx⟩ : ∃ x, bs'[k]? = some x := ⟨_, List.getElem?_eq_getElem (by omega)⟩
        obtain ⟨q0, q1⟩ := hcell k _ hx
        simp only at q0 q1
        have hst : Shf0.state T k = b.st := state_at hin hx
        have hsub : R = if b.st ≠ 1 then Shf0.flushFrom T (k + 1) gk' else if (Shf0.flush T k).1 ≠ 0 then Shf0.flush T k else Shf0.flushFrom (Shf0.flush T k).2 (k + 1) gk' := by
          rw [HRT.out, hgk, Shf0.flushFrom_succ, hst]
        have HSUB := Lib.hid hsub; clear hsub hst
        have k0 : (0 : Int) ≤ k := by omega
        have k1 : (k : Int) < bs.length := by omega
        clear hcell hx hvb2 hcz2 hin hbv hbl
        have HGK := Lib.hid hgk; clear hgk
        obtain ⟨bst, hbst⟩ : ∃ bst, bst = b.st := ⟨_, rfl⟩
        rw [← hbst] at q1 HSUB
        clear hbst
        by_cases h1 : bst = 1
        · have hb1 : (bst != 1) = false := by simp [h1]
          have hR2 : R = if (Shf0.flush T k).1 ≠ 0 then Shf0.flush T k else Shf0.flushFrom (Shf0.flush T k).2 (k + 1) gk' := by rw [HSUB.out, if_neg (by simp [h1])]
          have HR2 := Lib.hid hR2; clear hR2 h1 HSUB
          go_wp2_with (first
            | (refine im_alloc_row rfl 106 rfl (zero106 _) ?_; intro w3 b3 f3 z3; have B3 := Lib.hid b3; clear b3; have Z3 := Lib.hid z3; clear z3)
            | (refine im_store_row rfl 106 _ _ rfl (vs := #[L.ptr, .int .i64 bst]) rfl rfl B3.out rfl info106 (bay_one _ rfl _) ?_; intro w4 b4 f4 z4; have p1 : w4.cell? ⟨wr.heap.size, 1, none⟩ = some (.int .i64 bst) := cell_of_blk b4; clear b4; have Z4 := Lib.hid z4; clear z4))
          have hz3 := Z3.out
          have hz4 := Z4.out
          have ff : Fr (fun q => q = wr.heap.size) wr w4 := f3.no.trans f4
          have hno : ∀ q, O q → ¬ q = wr.heap.size := fun q hq e => by have := HT.out.olt hq; omega
          have hslt : s < wr.heap.size := World.block_lt_of_cell? wr ⟨s, 6, none⟩ c6r
          have c64 := (ff.cb hslt (by omega)).trans c6r
          have FF := Lib.hid (hfr.trans' ff (U := fun q => O q ∨ q = wr.heap.size) (fun _ _ h => .inl h) (fun _ _ h => .inr h))
          refine (sflush_calls (HT.out.fr ff hno) (k : Int)).mono ?_; rintro e w5 ⟨rfl, s5, f5, b5⟩
          have S5 := Lib.hid s5; clear s5
          have c65 := b5.trans c64
          have hfin : Fr O w w5 := (hfr.trans' ff (U := fun q => q = wr.heap.size ∨ O q) (fun _ _ h => .inr h) (fun _ _ h => .inl h)).trans' f5 (fun i hi h => h.elim (fun h => by omega) id) (fun _ _ h => h)
          have HFIN := Lib.hid hfin
          have hlen5 : (Shf0.flush T k).2.bays.length = bs.length := by rw [Shf0.flush_len]; exact HTL.out
          have HL5 := Lib.hid hlen5
          clear hfin hlen5 f3 f4 ff hno f5 b5 c64 p1 q0 q1 c6r
          obtain ⟨er, her⟩ : ∃ er, er = (Shf0.flush T k).1 := ⟨_, rfl⟩
          rw [← her]
          by_cases he : er = 0
          · have hb2 : (er != 0) = false := by simp [he]
            have hR3 : R = Shf0.flushFrom (Shf0.flush T k).2 (k + 1) gk' := by rw [HR2.out, if_neg (by rw [← her]; simp [he])]
            have HR3 := Lib.hid hR3; clear hR3 he her
            go_wp2_with fail
            have hn : gk + k = bs.length := HM.out
            have hgk := HGK.out
            go_roundg (gk - 1)
            case measure => omega
            case rel => exact ⟨k + 1, _, by omega, by go_num, S5.out, HL5.out, c65, by rw [show gk - 1 = gk' by omega]; exact HR3.out, HFIN.out⟩
          · have hb2 : (er != 0) = true := by simp [he]
            have hR3 : R = Shf0.flush T k := by rw [HR2.out, if_pos (by rw [← her]; exact he)]
            have hR4 : R.1 = er := by rw [hR3, her]
            have HR4 := Lib.hid hR4
            have HR3 := Lib.hid hR3; clear hR3 he her hR4
            go_wp2_with fail
            go_ret
            exact ⟨by rw [HR4.out]; rfl, by rw [HR3.out]; exact S5.out, HFIN.out⟩
        · have hb1 : (bst != 1) = true := by simp [h1]
          have hR2 : R = Shf0.flushFrom T (k + 1) gk' := by rw [HSUB.out, if_pos h1]
          have HR2 := Lib.hid hR2; clear hR2 h1 HSUB
          go_wp2_with (first
            | (refine im_alloc_row rfl 106 rfl (zero106 _) ?_; intro w3 b3 f3 z3; have B3 := Lib.hid b3; clear b3; have Z3 := Lib.hid z3; clear z3)
            | (refine im_store_row rfl 106 _ _ rfl (vs := #[L.ptr, .int .i64 bst]) rfl rfl B3.out rfl info106 (bay_one _ rfl _) ?_; intro w4 b4 f4 z4; have p1 : w4.cell? ⟨wr.heap.size, 1, none⟩ = some (.int .i64 bst) := cell_of_blk b4; clear b4; have Z4 := Lib.hid z4; clear z4))
          have hz3 := Z3.out
          have hz4 := Z4.out
          have ff : Fr (fun q => q = wr.heap.size) wr w4 := f3.no.trans f4
          have hno : ∀ q, O q → ¬ q = wr.heap.size := fun q hq e => by have := HT.out.olt hq; omega
          have hslt : s < wr.heap.size := World.block_lt_of_cell? wr ⟨s, 6, none⟩ c6r
          have hn : gk + k = bs.length := HM.out
          have hgk := HGK.out
          have hfin : Fr O w w4 := (hfr.trans' ff (U := fun q => q = wr.heap.size ∨ O q) (fun _ _ h => .inr h) (fun _ _ h => .inl h)).trans' (Fr.refl (fun _ => False) w4) (fun i hi h => h.elim (fun h => by omega) id) (fun _ _ h => h.elim)
          go_roundg (gk - 1)
          case measure => omega
          case rel => exact ⟨k + 1, T, by omega, by go_num, HT.out.fr ff hno, HTL.out, (ff.cb hslt (by omega)).trans c6r, by rw [show gk - 1 = gk' by omega]; exact HR2.out, hfin⟩
      · have hkn : k = bs.length := by have := HM.out; omega
        have hg0 : gk = 0 := by have := HM.out; omega
        have hRe : R = (0, T) := by rw [HRT.out, hg0]; rfl
        subst hRe
        clear hT
        go_wp2_with fail
        go_ret
        exact ⟨rfl, HT.out, hfr⟩
end
end Go.Proofs.Ytmbkmfpnjpkakaa
