/- Plain facts for the law on Clone: what a script answers, one operation after the other. -/
import Derived.Test.YtmbkmfpnjpkakaaR4
import Derived.Test.YtmbkmfpnjpkakaaD9
namespace Go.Dsk0
/-- What the operations of a script answer. -/
def resOf : Dsk → List DOp → List Int
  | _, [] => []
  | D, o :: l => (doOp D o).1 :: resOf (doOp D o).2 l
theorem resOf_length : ∀ (l : List DOp) (D : Dsk), (resOf D l).length = l.length
  | [], _ => rfl
  | o :: l, D => by simp [resOf, resOf_length l]
theorem resOf_snoc : ∀ (l : List DOp) (o : DOp) (D : Dsk), resOf D (l ++ [o]) = resOf D l ++ [(doOp (doAll D l) o).1]
  | [], _, _ => rfl
  | x :: l, o, D => by
    rw [List.cons_append, resOf, resOf_snoc l o, resOf]
    rfl
theorem resOf_get : ∀ (l : List DOp) (k : Nat) (o : DOp) (D : Dsk), l[k]? = some o → (resOf D l)[k]? = some (doOp (doAll D (l.take k)) o).1
  | [], _, _, _, h => by simp at h
  | x :: l, 0, o, D, h => by
    simp at h; subst h; rfl
  | x :: l, k + 1, o, D, h => by
    rw [resOf]
    simp only [List.getElem?_cons_succ] at h ⊢
    rw [resOf_get l k o _ h]
    rfl
end Go.Dsk0
namespace Go.Im
theorem row_frb {w w' : World} {base : Nat} {e : TypeId} {size : Nat} {v : Value} {n : Nat} {xs : List Value} (h : w.ownsRow base e size v n xs) {S : Nat → Prop} (f : Fr S w w') (hS : ∀ k, some k = v.ownBlock → ¬ S k) : w'.ownsRow base e size v n xs := by
  obtain ⟨h1, h2 | ⟨g, cap, cur, h2, h3, h4, h5⟩⟩ := h
  · exact ⟨h1, .inl h2⟩
  · exact ⟨h1, .inr ⟨g, cap, cur, h2, h3, (f.block g (lt_of_blk h4) (hS g (by rw [h2]; rfl))).trans h4, h5⟩⟩
theorem row_lt {w : World} {base : Nat} {e : TypeId} {size : Nat} {v : Value} {n : Nat} {xs : List Value} (h : w.ownsRow base e size v n xs) {k : Nat} (hk : some k = v.ownBlock) : base ≤ k ∧ k < w.heap.size := by
  obtain ⟨h1, h2 | ⟨g, cap, cur, h2, h3, h4, h5⟩⟩ := h
  · rw [h2.1] at hk; cases hk
  · rw [h2] at hk; injection hk with hk; subst hk; exact ⟨h3, lt_of_blk h4⟩
end Go.Im
namespace Go.Proofs.Ytmbkmfpnjpkakaa
open Go.ChangeShapes Go.WideShapes Go.ChangeAt Go.RowKit Go.Im Go.Dsk0
theorem resOf_take {l : List DOp} {k : Nat} {o : DOp} (h : l[k]? = some o) (D : Dsk) : resOf D (l.take (k + 1)) = resOf D (l.take k) ++ [(doOp (doAll D (l.take k)) o).1] := by rw [take_snoc h, resOf_snoc]
theorem info29 : (Try.prog.info? 29).map (fun i => (i.zero, i.size, i.bytes)) = some (some (.int .i64 0), 1, 8) := by kernel_rfl
theorem mt72 : Try.prog.underlying 72 = some (.slice 29) := by kernel_rfl
/-- A row of answers: one of them. -/
theorem row_ints {w : World} {base : Nat} {v : Value} {n : Nat} {l : List Int} (h : w.ownsRow base 29 1 v n (l.map (Value.int .i64))) {k : Nat} {x : Int} (hx : l[k]? = some x) : ∃ gb vc, v = .slice (some ⟨gb, 0, none⟩) n vc ∧ base ≤ gb ∧ gb < w.heap.size ∧ w.cell? ⟨gb, k, none⟩ = some (.int .i64 x) := by
  obtain ⟨h1, h2⟩ := h
  have hn : n = l.length := by simpa using h1.symm
  have hk : k < l.length := (List.getElem?_eq_some_iff.1 hx).1
  rcases h2 with h2 | ⟨gb, vc, cur, h2, h3, h4, h5, h6, h7, h8⟩
  · omega
  · refine ⟨gb, vc, h2, h3, lt_of_blk h4, ?_⟩
    rw [cell_of_blk h4]
    have : (cur.toList.take (n * 1))[k]? = some (.int .i64 x) := by
      rw [h8, List.getElem?_map, hx]; rfl
    rw [List.getElem?_take_of_lt (by omega)] at this
    simpa using this
end Go.Proofs.Ytmbkmfpnjpkakaa
