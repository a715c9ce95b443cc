/- One operation of a script on the program's shelf (printed by wip/tools/sdo.py). -/
import Derived.Test.YtmbkmfpnjpkakaaX6
namespace Go.Shf0
open Go.Dsk0
/-- One operation of a script: its text, its number, its error, and the shelf behind it. -/
def doOp (S : Shelf) (o : SOp) : (List UInt8 × Int × Int) × Shelf :=
  if o.kind = 1 then (([], 0, (write S o.at_ (text o)).1), (write S o.at_ (text o)).2)
  else if o.kind = 2 then (((read S o.at_).1, 0, (read S o.at_).2), S)
  else if o.kind = 3 then (([], 0, (flush S o.at_.disk).1), (flush S o.at_.disk).2)
  else if o.kind = 4 then (([], 0, (flushAll S).1), (flushAll S).2)
  else if o.kind = 5 then (([], 0, 0), fuse S o.n)
  else if o.kind = 6 then (([], 0, 0), mount S o.picks)
  else if o.kind = 7 then (([], 0, (kill S o.at_.disk).1), (kill S o.at_.disk).2)
  else if o.kind = 8 then (([], (remove S o.at_.disk).1, (remove S o.at_.disk).2.1), (remove S o.at_.disk).2.2)
  else if o.kind = 9 then (([], 0, (insert S o.at_.disk o.n).1), (insert S o.at_.disk o.n).2)
  else if o.kind = 10 then (([], 0, (replace S o.at_.disk).1), (replace S o.at_.disk).2)
  else if o.kind = 11 then (([], 0, (rot S o.at_ o.n).1), (rot S o.at_ o.n).2)
  else if o.kind = 12 then (([], 0, (lose S o.at_).1), (lose S o.at_).2)
  else if o.kind = 13 then (([], 0, (misdirect S o.at_ o.tgt).1), (misdirect S o.at_ o.tgt).2)
  else (([], 0, 0), S)
end Go.Shf0
namespace Go.Proofs.Ytmbkmfpnjpkakaa
open Go.RowKit Go.Im Go.Dsk0

theorem zero148 (w : World) : (zeroValue 148).run Try.prog w = .ok (.agg #[.string ⟨#[]⟩, .int .i64 0, .int .i64 0]) w := by kernel_rfl
theorem info148 : (Try.prog.info? 148).map (·.size) = some 3 := by kernel_rfl
theorem und148 : (Try.prog.underlying 148).map (fun d => match d with | .struct _ | .array _ _ => true | _ => false) = some true := by kernel_rfl
theorem res148 (tmps : Array Value) (w : World) (g : Nat) (cs : Array Value) (hp : tmps.getD 4 undef = .pointer (some ⟨g, 0, none⟩)) (hg : w.heap[g]? = some (.cells cs 148 (0, 0))) (hsz : cs.size = 3) : (results Try.f90 tmps).run Try.prog w = .ok (.agg cs) w := by
  have hu := und148
  cases h : Try.prog.underlying 148 with
  | none => rw [h] at hu; cases hu
  | some d =>
    rw [h] at hu
    exact results_cell_row rfl tmps w g 148 cs (0, 0) d hp hg h (by cases d <;> first | rfl | cases hu) (by rw [info148, hsz])
theorem res_one (t : ByteArray) (n e : Int) : (#[.string t, .int .i64 n, .int .i64 e] : Array Value).all (·.oneCell') = true := by simp [Value.oneCell']
/-- A result. -/
def resV (r : List UInt8 × Int × Int) : Value := .agg #[.string ⟨r.1.toArray⟩, .int .i64 r.2.1, .int .i64 r.2.2]

theorem do_box {w w1 w2 w3 w4 : World} {X : Obj} (b1 : w1.heap[w.heap.size]? = some X) (z1 : w1.heap.size = w.heap.size + 1) (f2 : Fr (fun _ => False) w1 w2) (z2 : w2.heap.size = w1.heap.size + 1) (f3 : Fr (fun _ => False) w2 w3) (f4 : Fr (fun i => i = w2.heap.size) w3 w4) : w4.heap[w.heap.size]? = some X := by
  have h3 := f3.size
  refine (f4.block _ (by omega) (by omega)).trans ((f3.block _ (by omega) (fun h => h)).trans ((f2.block _ (by omega) (fun h => h)).trans b1))
theorem do_res {w1 w2 w3 w4 : World} {X : Obj} (b2 : w2.heap[w1.heap.size]? = some X) (z2 : w2.heap.size = w1.heap.size + 1) (f3 : Fr (fun _ => False) w2 w3) (f4 : Fr (fun i => i = w2.heap.size) w3 w4) : w4.heap[w1.heap.size]? = some X := by
  have h3 := f3.size
  exact (f4.block _ (by omega) (by omega)).trans ((f3.block _ (by omega) (fun h => h)).trans b2)
theorem do_pre {w w1 w2 w3 w4 : World} (f1 : Fr (fun _ => False) w w1) (f2 : Fr (fun _ => False) w1 w2) (f3 : Fr (fun _ => False) w2 w3) (f4 : Fr (fun i => i = w2.heap.size) w3 w4) : Fr (fun _ => False) w w4 := by
  have h1 := f1.size
  have h2 := f2.size
  exact ((f1.trans f2).trans f3).trans' f4 (fun _ _ h => h) (fun i hi h => by omega)

theorem cells11 {w : World} {b : Nat} {t : TypeId} {fr : Nat × Nat} {v0 v1 v2 v3 v4 v5 v6 v7 v8 v9 v10 : Value} (h : w.heap[b]? = some (.cells #[v0, v1, v2, v3, v4, v5, v6, v7, v8, v9, v10] t fr)) : w.cell? ⟨b, 0, none⟩ = some v0 ∧ w.cell? ⟨b, 1, none⟩ = some v1 ∧ w.cell? ⟨b, 2, none⟩ = some v2 ∧ w.cell? ⟨b, 3, none⟩ = some v3 ∧ w.cell? ⟨b, 4, none⟩ = some v4 ∧ w.cell? ⟨b, 5, none⟩ = some v5 ∧ w.cell? ⟨b, 6, none⟩ = some v6 ∧ w.cell? ⟨b, 7, none⟩ = some v7 ∧ w.cell? ⟨b, 8, none⟩ = some v8 ∧ w.cell? ⟨b, 9, none⟩ = some v9 ∧ w.cell? ⟨b, 10, none⟩ = some v10 :=
  ⟨cell_of_blk h, cell_of_blk h, cell_of_blk h, cell_of_blk h, cell_of_blk h, cell_of_blk h, cell_of_blk h, cell_of_blk h, cell_of_blk h, cell_of_blk h, cell_of_blk h⟩
theorem cells3 {w : World} {b : Nat} {t : TypeId} {fr : Nat × Nat} {v0 v1 v2 : Value} (h : w.heap[b]? = some (.cells #[v0, v1, v2] t fr)) : w.cell? ⟨b, 0, none⟩ = some v0 ∧ w.cell? ⟨b, 1, none⟩ = some v1 ∧ w.cell? ⟨b, 2, none⟩ = some v2 :=
  ⟨cell_of_blk h, cell_of_blk h, cell_of_blk h⟩

/-- What a step leaves, its contract made alike for all. -/
def Stepped (O : Nat → Prop) (s : Nat) (S' : Shf0.Shelf) (w w' : World) : Prop := ShelfAt w' (grow O w w') s S' ∧ Fr O w w'

theorem do_fin {O : Nat → Prop} {s : Nat} {S' : Shf0.Shelf} {w w4 w5 w7 : World} {ra rb : Nat} (h0 : ∀ q, O q → q < w.heap.size) (f4 : Fr (fun _ => False) w w4) (hra : w.heap.size ≤ ra ∧ ra < w4.heap.size) (hrb : w.heap.size ≤ rb ∧ rb < w4.heap.size) (h5 : Stepped O s S' w4 w5) (f : Fr (fun q => q = ra ∨ q = rb) w5 w7) : Stepped O s S' w w7 := by
  obtain ⟨h, g⟩ := h5
  have hs := f4.size
  have hs5 := g.size
  have hn : ∀ q, grow O w4 w5 q → ¬ (q = ra ∨ q = rb) := fun q hq => by
    rcases hq with hq | hq
    · have := h0 q hq; omega
    · omega
  have h7 := h.fr f hn
  refine ⟨h7.mono (fun q hq => hq.imp id fun hq => ⟨Nat.le_trans hs hq.1, Nat.lt_of_lt_of_le hq.2 f.size⟩) (fun q hq => hq.elim (fun hq => h7.olt (.inl hq)) (·.2)), (f4.no.trans g).trans' f (fun _ _ h => h) (fun i hi h => by omega)⟩

section
variable {w : World} {O : Nat → Prop} {s : Nat} {S : Shf0.Shelf}
end
end Go.Proofs.Ytmbkmfpnjpkakaa
