/- The reference's Places. -/
import Derived.Test.YtmbkmfpnjpkakaaW2
namespace Go.Shf0
/-- The places of a configuration, in the reference's order. -/
def rowP (c : Cfg) (d a : Nat) : List Place := (List.range (((sizes c)[a]?).getD 0).toNat).map fun (i : Nat) => ⟨(d : Int), (a : Int) + 1, (i : Int)⟩
def diskP (c : Cfg) (d : Nat) : List Place := (List.range 4).flatMap (rowP c d)
def places (c : Cfg) : List Place := (List.range c.disks.toNat).flatMap (diskP c)
end Go.Shf0
namespace Go.Proofs.Ytmbkmfpnjpkakaa
open Go.RowKit Go.Im Go.Dsk0
def plcC (p : Shf0.Place) : List Value := [.int .i64 p.disk, .int .i64 p.area, .int .i64 p.index]
theorem info25' : (Try.prog.info? 25).map (fun i => (i.zero, i.size, i.bytes)) = some (some (.agg #[.int .i64 0, .int .i64 0, .int .i64 0]), 3, 24) := by kernel_rfl
theorem mt92 : Try.prog.underlying 92 = some (.slice 25) := by kernel_rfl
end Go.Proofs.Ytmbkmfpnjpkakaa
