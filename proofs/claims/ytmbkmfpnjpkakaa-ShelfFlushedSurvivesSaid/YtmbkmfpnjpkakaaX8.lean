/- One operation of a script on the program's shelf: all kinds. -/
import Derived.Test.YtmbkmfpnjpkakaaX7a
import Derived.Test.YtmbkmfpnjpkakaaX7b
import Derived.Test.YtmbkmfpnjpkakaaX7c
namespace Go.Proofs.Ytmbkmfpnjpkakaa
open Go.RowKit Go.Im Go.Dsk0
section
variable {w : World} {O : Nat → Prop} {s : Nat} {S : Shf0.Shelf}
theorem sdo_calls (h : ShelfAt w O s S) (o : Shf0.SOp) (pa : Option Addr) (pc : Nat) (hp : IntsAt w (.slice pa o.picks.length pc) o.picks (fun b => ¬ O b)) (hpc : o.picks.length ≤ pc) (hil : S.images.length ≤ 1000) :
    Calls Try.prog 90 #[.pointer (some ⟨s, 0, none⟩), .agg (sopC o (.slice pa o.picks.length pc))] w fun e w' => e = .returned (resV (Shf0.doOp S o).1) ∧ Stepped O s (Shf0.doOp S o).2 w w' := by
  unfold Shf0.doOp
  by_cases h1 : o.kind = 1
  · rw [if_pos h1]; exact sdo_write h o h1
  rw [if_neg h1]
  by_cases h2 : o.kind = 2
  · rw [if_pos h2]; exact sdo_read h o h2
  rw [if_neg h2]
  by_cases h3 : o.kind = 3
  · rw [if_pos h3]; exact sdo_flush h o h3
  rw [if_neg h3]
  by_cases h4 : o.kind = 4
  · rw [if_pos h4]; exact sdo_flushAll h o h4
  rw [if_neg h4]
  by_cases h5 : o.kind = 5
  · rw [if_pos h5]; exact sdo_fuse h o h5
  rw [if_neg h5]
  by_cases h6 : o.kind = 6
  · rw [if_pos h6]; exact sdo_mount h o pa pc hp hpc h6
  rw [if_neg h6]
  by_cases h7 : o.kind = 7
  · rw [if_pos h7]; exact sdo_kill h o h7
  rw [if_neg h7]
  by_cases h8 : o.kind = 8
  · rw [if_pos h8]; exact sdo_remove h o hil h8
  rw [if_neg h8]
  by_cases h9 : o.kind = 9
  · rw [if_pos h9]; exact sdo_insert h o h9
  rw [if_neg h9]
  by_cases h10 : o.kind = 10
  · rw [if_pos h10]; exact sdo_replace h o h10
  rw [if_neg h10]
  by_cases h11 : o.kind = 11
  · rw [if_pos h11]; exact sdo_rot h o h11
  rw [if_neg h11]
  by_cases h12 : o.kind = 12
  · rw [if_pos h12]; exact sdo_lose h o h12
  rw [if_neg h12]
  by_cases h13 : o.kind = 13
  · rw [if_pos h13]; exact sdo_misdirect h o h13
  rw [if_neg h13]
  exact sdo_none h o (by omega)
end
end Go.Proofs.Ytmbkmfpnjpkakaa
