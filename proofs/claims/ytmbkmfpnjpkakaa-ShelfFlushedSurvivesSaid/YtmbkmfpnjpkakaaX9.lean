/- Scripts of the shelf's laws in memory. -/
import Derived.Test.YtmbkmfpnjpkakaaX8
namespace Go.Proofs.Ytmbkmfpnjpkakaa
open Go.RowKit Go.Im Go.Dsk0

/-- One operation in memory. -/
structure SOpAt (w : World) (b p : Nat) (o : Shf0.SOp) (pa : Option Addr) (pc : Nat) (ok : Nat → Prop) : Prop where
  cells : ∀ (u : Nat) (v : Value), (sopC o (.slice pa o.picks.length pc))[u]? = some v → w.cell? ⟨b, p + u, none⟩ = some v
  picks : IntsAt w (.slice pa o.picks.length pc) o.picks ok
  cap : o.picks.length ≤ pc
theorem SOpAt.fr {w w' : World} {b p : Nat} {o : Shf0.SOp} {pa : Option Addr} {pc : Nat} {ok : Nat → Prop} (h : SOpAt w b p o pa pc ok) {S : Nat → Prop} (f : Fr S w w') (hS : ∀ b, b < w.heap.size → ok b → ¬ S b) (hb : b < w.heap.size) (hk : ok b) : SOpAt w' b p o pa pc ok :=
  ⟨fun u v hv => (f.cb hb (hS b hb hk)).trans (h.cells u v hv), h.picks.fr f hS, h.cap⟩

/-- A script in memory. -/
def SOpsAt (w : World) (v : Value) (l : List Shf0.SOp) (ok : Nat → Prop) : Prop :=
  ∃ a c, v = .slice a l.length c ∧ l.length ≤ 9223372036854775807 ∧ (l = [] ∨ ∃ b p, a = some ⟨b, p, none⟩ ∧ b < w.heap.size ∧ ok b ∧ ∀ (j : Nat) (o : Shf0.SOp), l[j]? = some o → ∃ pa pc, SOpAt w b (p + j * 11) o pa pc ok)
theorem SOpsAt.fr {w w' : World} {v : Value} {l : List Shf0.SOp} {ok : Nat → Prop} (h : SOpsAt w v l ok) {S : Nat → Prop} (f : Fr S w w') (hS : ∀ b, b < w.heap.size → ok b → ¬ S b) : SOpsAt w' v l ok := by
  obtain ⟨a, c, h1, h2, h3 | ⟨b, p, h3, h4, h5, h6⟩⟩ := h
  · exact ⟨a, c, h1, h2, .inl h3⟩
  · refine ⟨a, c, h1, h2, .inr ⟨b, p, h3, Nat.lt_of_lt_of_le h4 f.size, h5, fun j o ho => ?_⟩⟩
    obtain ⟨pa, pc, h7⟩ := h6 j o ho
    exact ⟨pa, pc, h7.fr f hS h4 h5⟩
end Go.Proofs.Ytmbkmfpnjpkakaa
namespace Go.Shf0
/-- A script played. -/
def play (S : Shelf) : List SOp → Shelf
  | [] => S
  | o :: l => play (doOp S o).2 l
theorem play_snoc (S : Shelf) (l : List SOp) (o : SOp) : play S (l ++ [o]) = (doOp (play S l) o).2 := by
  induction l generalizing S with
  | nil => rfl
  | cons x l ih => exact ih _
end Go.Shf0
