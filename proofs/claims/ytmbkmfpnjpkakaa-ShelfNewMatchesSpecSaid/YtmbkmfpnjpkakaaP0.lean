/- The plain disk: a list of sectors, each with its durable content, its cached content and its fault; what each operation makes of it. No program is named. -/
namespace Go.Dsk0

/-- A sector: its durable content; its cached content, if it is pending; its fault: -1 the next write is lost, else the sector to which it goes. -/
structure Sec where
  dur : List UInt8
  cac : Option (List UInt8)
  flt : Option Int

abbrev Dsk := List Sec

def zeros : List UInt8 := List.replicate 64 0
def new (n : Int) : Dsk := List.replicate (max 0 (min n 65536)).toNat ⟨zeros, none, none⟩

structure Ok (D : Dsk) : Prop where
  dur : ∀ s ∈ D, s.dur.length = 64
  cac : ∀ s ∈ D, ∀ c, s.cac = some c → c.length = 64
  flt : ∀ s ∈ D, ∀ t, s.flt = some t → t = -1 ∨ (0 ≤ t ∧ t < D.length)
  len : D.length ≤ 65536

def has (D : Dsk) (i : Int) : Bool := decide (0 ≤ i ∧ i < D.length)

def clr (D : Dsk) (i : Nat) : Dsk := D.modify i fun s => { s with flt := none }
def setc (D : Dsk) (i : Nat) (l : List UInt8) : Dsk := D.modify i fun s => { s with cac := some l }
def arm (D : Dsk) (i : Nat) (t : Int) : Dsk := D.modify i fun s => { s with flt := some t }

def goal (D : Dsk) (i : Int) : Int := ((D[i.toNat]?).bind (·.flt)).getD i
def write (D : Dsk) (i : Int) (l : List UInt8) : Int × Dsk :=
  if has D i = true ∧ l.length = 64 then (0, if goal D i = -1 then clr D i.toNat else setc (clr D i.toNat) (goal D i).toNat l) else (1, D)

def cont (s : Sec) : List UInt8 := s.cac.getD s.dur
def read (D : Dsk) (i : Int) : List UInt8 × Int := if has D i = true then (((D[i.toNat]?).map cont).getD [], 0) else ([], 1)

def lose (D : Dsk) (i : Int) : Int × Dsk := if has D i = true then (0, arm D i.toNat (-1)) else (1, D)
def misdirect (D : Dsk) (i t : Int) : Int × Dsk := if has D i = true ∧ has D t = true then (0, arm D i.toNat t) else (1, D)

/-- A bit of a text inverted. -/
def flip (l : List UInt8) (bit : Nat) : List UInt8 := l.modify (bit / 8) fun x => x ^^^ ((1 : UInt8) <<< (UInt8.ofNat (bit % 8)))
def rotD (D : Dsk) (i bit : Nat) : Dsk := D.modify i fun s => { s with dur := flip s.dur bit }
def rotC (D : Dsk) (i bit : Nat) : Dsk := D.modify i fun s => { s with cac := s.cac.map (flip · bit) }
def rot (D : Dsk) (i bit : Int) : Int × Dsk := if has D i = true ∧ 0 ≤ bit ∧ bit < 512 then (0, rotC (rotD D i.toNat bit.toNat) i.toNat bit.toNat) else (1, D)

def flush (D : Dsk) : Dsk := D.map fun s => { s with dur := cont s, cac := none }

def pends (D : Dsk) (i : Nat) : Bool := ((D[i]?).bind (·.cac)).isSome
/-- The numbers of the pending sectors. -/
def pend (D : Dsk) : List Nat := (List.range D.length).filter (pends D)
/-- A pick, as a number of bytes. -/
def clamp (p : Int) : Nat := (min (max p 0) 64).toNat
def cutOne (s : Sec) (n : Nat) : Sec := match s.cac with
  | none => s
  | some c => { s with dur := c.take n ++ s.dur.drop n, cac := none }
/-- The pending sectors of the list have been settled, the first one by the pick of number k. -/
def settle (ps : List Int) : Nat → List Nat → Dsk → Dsk
  | _, [], D => D
  | k, i :: l, D => settle ps (k + 1) l (D.modify i fun s => cutOne s (clamp ((ps[k]?).getD 0)))
def unarm (D : Dsk) : Dsk := D.map fun s => { s with flt := none }
def cut (D : Dsk) (ps : List Int) : Dsk := unarm (settle ps 0 (pend D) D)

end Go.Dsk0
