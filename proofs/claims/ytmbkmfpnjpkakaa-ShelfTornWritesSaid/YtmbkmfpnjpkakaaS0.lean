/- The plain shelf: a configuration, bays with disks, images, the power and the fuse; what each operation answers and what it makes of the shelf. No program is named. -/
import Derived.Test.YtmbkmfpnjpkakaaP1
import Derived.IntWalk
namespace Go.Shf0
open Go.Dsk0

structure Cfg where
  disks : Int
  racks : Int
  rows : Int
  spare : Int
  log : Int
  image : Int

structure Place where
  disk : Int
  area : Int
  index : Int

structure Bay where
  D : Dsk
  st : Int

structure Shelf where
  cfg : Cfg
  bays : List Bay
  images : List Dsk
  off : Bool
  fused : Bool
  left : Int

def sizes (c : Cfg) : List Int := [c.log, c.image, c.image, c.rows]
def sectors (c : Cfg) : Int := c.log + c.image + c.image + c.rows
def valid (c : Cfg) : Prop := (1 ≤ c.disks ∧ c.disks ≤ 64) ∧ (1 ≤ c.racks ∧ c.racks ≤ 8) ∧ (1 ≤ c.rows ∧ c.rows ≤ 4096) ∧ (0 ≤ c.spare ∧ c.spare ≤ c.disks - 1) ∧ (1 ≤ c.log ∧ c.log ≤ 65536) ∧ (1 ≤ c.image ∧ c.image ≤ 65536) ∧ c.disks % c.racks = 0
instance (c : Cfg) : Decidable (valid c) := by unfold valid; infer_instance

/-- A new shelf. -/
def newS (c : Cfg) : Shelf := ⟨c, List.replicate c.disks.toNat ⟨new (sectors c), 1⟩, [], false, false, 0⟩

def state (S : Shelf) (d : Int) : Int := if 0 ≤ d ∧ d < S.bays.length then ((S.bays[d.toNat]?).map (·.st)).getD 0 else 0
def there (S : Shelf) (p : Place) : Prop := state S p.disk ≠ 0 ∧ 1 ≤ p.area ∧ p.area ≤ 4 ∧ 0 ≤ p.index ∧ p.index < ((sizes S.cfg)[(p.area - 1).toNat]?).getD 0
instance (S : Shelf) (p : Place) : Decidable (there S p) := by unfold there; infer_instance
def offset (c : Cfg) (a : Int) : Int := ((sizes c).take (a - 1).toNat).sum
def number (S : Shelf) (p : Place) : Int := if there S p then offset S.cfg p.area + p.index else -1
def access (S : Shelf) (d : Int) : Int := if S.off = true then 14 else if state S d ≠ 1 then 15 else 0

/-- A bay's disk turned; a bay's state. -/
def turnD (S : Shelf) (d : Nat) (f : Dsk → Dsk) : Shelf := { S with bays := S.bays.modify d fun b => { b with D := f b.D } }
def turnS (S : Shelf) (d : Nat) (t : Int) : Shelf := { S with bays := S.bays.modify d fun b => { b with st := t } }
def bayD (S : Shelf) (d : Nat) : Dsk := ((S.bays[d]?).map (·.D)).getD []

/-- A step on a bay. -/
def step (S : Shelf) (d : Int) (f : Dsk → Dsk) : Int × Shelf :=
  if access S d ≠ 0 then (access S d, S)
  else if S.fused = true then (if S.left = 0 then (14, { S with off := true, fused := false }) else (0, turnD { S with left := IntKind.i64.wrap (S.left - 1) } d.toNat f))
  else (0, turnD S d.toNat f)

def write (S : Shelf) (p : Place) (l : List UInt8) : Int × Shelf :=
  if there S p ∧ l.length = 64 then step S p.disk fun D => (Dsk0.write D (number S p) l).2 else (1, S)
def read (S : Shelf) (p : Place) : List UInt8 × Int :=
  if there S p then (if access S p.disk ≠ 0 then ([], access S p.disk) else Dsk0.read (bayD S p.disk.toNat) (number S p)) else ([], 1)
def flush (S : Shelf) (d : Int) : Int × Shelf := if state S d = 0 then (1, S) else step S d Dsk0.flush
def flushFrom (S : Shelf) : Nat → Nat → Int × Shelf
  | _, 0 => (0, S)
  | k, n + 1 => if state S k ≠ 1 then flushFrom S (k + 1) n else if (flush S k).1 ≠ 0 then flush S k else flushFrom (flush S k).2 (k + 1) n
def flushAll (S : Shelf) : Int × Shelf := if S.off = true then (14, S) else flushFrom S 0 S.bays.length
def fuse (S : Shelf) (n : Int) : Shelf := { S with fused := decide (0 ≤ n), left := n }
/-- The bays from a number on, cut by the picks one after the other. -/
def cutBays : List Bay → List Int → List Bay
  | [], _ => []
  | b :: l, ps => if b.st = 1 then { b with D := cut b.D (ps.take (pend b.D).length) } :: cutBays l (ps.drop (pend b.D).length) else b :: cutBays l ps
def mount (S : Shelf) (ps : List Int) : Shelf := { S with bays := cutBays S.bays ps, off := false, fused := false }
def want (S : Shelf) (d : Int) (inn : Bool) (e : Int) : Int := if state S d = 0 then 1 else if decide (state S d = 1) ≠ inn then e else 0
def kill (S : Shelf) (d : Int) : Int × Shelf := if want S d true 15 = 0 then (0, turnS S d.toNat 3) else (want S d true 15, S)
def remove (S : Shelf) (d : Int) : Int × Int × Shelf :=
  if want S d true 15 = 0 then (S.images.length, 0, { S with bays := S.bays.set d.toNat ⟨new 0, 2⟩, images := S.images ++ [cut (bayD S d.toNat) []] }) else (0, want S d true 15, S)
def insert (S : Shelf) (d i : Int) : Int × Shelf :=
  if want S d false 19 = 1 then (1, S) else if i < 0 ∨ S.images.length ≤ i then (12, S)
  else if want S d false 19 = 0 then (0, { S with bays := S.bays.set d.toNat ⟨(S.images[i.toNat]?).getD [], 1⟩ }) else (want S d false 19, S)
def replace (S : Shelf) (d : Int) : Int × Shelf :=
  if want S d false 19 = 0 then (0, { S with bays := S.bays.set d.toNat ⟨new (sectors S.cfg), 1⟩ }) else (want S d false 19, S)
/-- Something done to a sector of a bay in service. -/
def arm (S : Shelf) (p : Place) (ok : Bool) (f : Dsk → Int → Int × Dsk) : Int × Shelf :=
  if there S p ∧ ok = true then (if state S p.disk = 1 then ((f (bayD S p.disk.toNat) (number S p)).1, turnD S p.disk.toNat fun D => (f D (number S p)).2) else (15, S)) else (1, S)
def rot (S : Shelf) (p : Place) (bit : Int) : Int × Shelf := arm S p (decide (0 ≤ bit ∧ bit < 512)) fun D n => Dsk0.rot D n bit
def lose (S : Shelf) (p : Place) : Int × Shelf := arm S p true fun D n => Dsk0.lose D n
def misdirect (S : Shelf) (p q : Place) : Int × Shelf := arm S p (decide (0 ≤ number S q ∧ p.disk = q.disk)) fun D n => Dsk0.misdirect D n (number S q)
def peek (S : Shelf) (p : Place) : List UInt8 × Bool := if there S p ∧ state S p.disk = 1 then ((Dsk0.read (bayD S p.disk.toNat) (number S p)).1, true) else ([], false)

/-- A shelf is well formed: all its disks have as many sectors as the configuration says, but those that stand for an empty bay. -/
structure Ok (S : Shelf) : Prop where
  cfg : valid S.cfg
  sec : sectors S.cfg ≤ 65536
  num : S.bays.length = S.cfg.disks.toNat
  bay : ∀ b ∈ S.bays, Dsk0.Ok b.D
  len : ∀ b ∈ S.bays, b.st ≠ 2 → (b.D.length : Int) = sectors S.cfg
  st : ∀ b ∈ S.bays, b.st = 1 ∨ b.st = 2 ∨ b.st = 3
  img : ∀ D ∈ S.images, Dsk0.Ok D ∧ (D.length : Int) = sectors S.cfg

end Go.Shf0
