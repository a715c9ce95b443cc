/- The loop over a script, as all laws have it: small facts for a round. -/
import Derived.Test.YtmbkmfpnjpkakaaR1
namespace Go.Dsk0

theorem write_length (D : Dsk) (i : Int) (l : List UInt8) : (write D i l).2.length = D.length := by
  unfold write
  split
  · simp only
    split <;> simp [clr, setc]
  · rfl
theorem doOp_length (D : Dsk) (o : DOp) : (doOp D o).2.length = D.length := by
  unfold doOp
  split
  · exact write_length _ _ _
  split
  · simp [flush]
  split
  · simp [cut, unarm, settle_length]
  split
  · unfold rot; split <;> simp [rotC, rotD]
  split
  · unfold lose; split <;> simp [arm]
  split
  · unfold misdirect; split <;> simp [arm]
  · rfl
theorem doAll_length (l : List DOp) : ∀ D : Dsk, (doAll D l).length = D.length := by
  induction l with
  | nil => intro D; rfl
  | cons o l ih => intro D; exact (ih _).trans (doOp_length D o)
theorem doAll_snoc (l : List DOp) (o : DOp) (D : Dsk) : doAll D (l ++ [o]) = (doOp (doAll D l) o).2 := by simp [doAll]
theorem Ok.doOp {D : Dsk} (h : Ok D) (o : DOp) : Ok (doOp D o).2 := by
  unfold Dsk0.doOp
  split
  · exact h.write _ _
  split
  · exact h.flush
  split
  · exact h.cut _
  split
  · exact h.rot _ _
  split
  · exact h.lose _
  split
  · exact h.misdirect _ _
  · exact h
theorem Ok.doAll (l : List DOp) : ∀ {D : Dsk}, Ok D → Ok (doAll D l) := by
  induction l with
  | nil => intro D h; exact h
  | cons o l ih => intro D h; exact ih (h.doOp o)
theorem new_len {n : Nat} (h : n ≤ 65536) : (new n).length = n := by simp [new]; omega
end Go.Dsk0
namespace Go.Proofs.Ytmbkmfpnjpkakaa
open Go.ChangeShapes Go.WideShapes Go.ChangeAt Go.RowKit Go.Im Go.Dsk0

theorem take_snoc {α : Type} {l : List α} {k : Nat} {o : α} (h : l[k]? = some o) : l.take (k + 1) = l.take k ++ [o] := by rw [List.take_add_one, h]; rfl
theorem doAll_take {l : List DOp} {k : Nat} {o : DOp} (h : l[k]? = some o) (D : Dsk) : doAll D (l.take (k + 1)) = (doOp (doAll D (l.take k)) o).2 := by rw [take_snoc h, doAll_snoc]

/-- The six zero cells of an operation. -/
def opZ : Array Value := #[.int .i64 0, .int .i64 0, .int .i64 0, .int .u8 0, .int .i64 0, .slice none 0 0]
theorem zero48 (w : World) : (zeroValue 48).run Try.prog w = .ok (.agg opZ) w := by kernel_rfl
/-- An operation's six cells, as an array. -/
def opC (o : DOp) (pv : Value) : Array Value := #[.int .i64 o.kind, .int .i64 o.i, .int .i64 o.j, B o.fill, .int .i64 o.size, pv]
theorem opV_eq (o : DOp) (pv : Value) : opV o pv = .agg (opC o pv) := rfl
theorem info48 : (Try.prog.info? 48).map (·.size) = some 6 := by kernel_rfl
theorem opC_one (o : DOp) {pv : Value} (h : pv.oneCell' = true) : (opC o pv).all (·.oneCell') = true := by
  unfold opC
  simp only [List.all_toArray, List.all_cons, List.all_nil, Bool.and_true, h, B_one]
  rfl
theorem IntsAt.one' {w : World} {v : Value} {l : List Int} {ok : Nat → Prop} (h : IntsAt w v l ok) : v.oneCell' = true := by
  obtain ⟨a, c, rfl, _⟩ := h; rfl

theorem opC_cells {w : World} {b : Nat} {o : DOp} {pv : Value} {t : TypeId} {fr : Nat × Nat} (h : w.heap[b]? = some (.cells (opC o pv) t fr)) :
    w.cell? ⟨b, 0, none⟩ = some (.int .i64 o.kind) ∧ w.cell? ⟨b, 1, none⟩ = some (.int .i64 o.i) ∧ w.cell? ⟨b, 2, none⟩ = some (.int .i64 o.j) ∧ w.cell? ⟨b, 3, none⟩ = some (B o.fill) ∧ w.cell? ⟨b, 4, none⟩ = some (.int .i64 o.size) ∧ w.cell? ⟨b, 5, none⟩ = some pv :=
  ⟨cell_of_blk h, cell_of_blk h, cell_of_blk h, cell_of_blk h, cell_of_blk h, cell_of_blk h⟩

/-- The old memory is left as it was. -/
theorem fr_below {w w' : World} (h : Fr (fun k => w.heap.size ≤ k) w w') : Below w.heap.size w w' := (h.mono (fun i hi h => by omega)).below
theorem foot_up {n bd bc ba : Nat} (h1 : n ≤ bd) (h2 : n ≤ bc) (h3 : n ≤ ba) : ∀ k, foot bd bc ba k → n ≤ k := fun k h => by unfold foot at h; omega
end Go.Proofs.Ytmbkmfpnjpkakaa
