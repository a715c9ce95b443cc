/- A region that draws its order, walked in ONE order: operations that only read, under a condition S on the world, come as early as they can; those that write or make memory come in the one order that their edges allow. No program is named. -/
import Derived.Test.YtmbkmfpnjpkakaaA2
import Derived.Deep.RegionHeld3
import Derived.StillTailTactics
namespace Go.Im
open Go

def pickOps (ops : Array Oper) (l : List Nat) : List (Nat × Oper) := l.filterMap fun i => (ops[i]?).map fun o => (i, o)

def seqH (P : Program) (ops : Array Oper) (Q : Exit → Act → World → Prop) (S : World → Prop) (eff : List Nat) : List (Nat × Oper) → Act → World → Prop
  | [], a, w => Q .normal a w
  | (i, o) :: l, a, w =>
    if eff.contains i then (if Region.wanted o (yielded ops a.tmps) then o.wp P a w (fun a' w' => S w' ∧ seqH P ops Q S eff l a' w') Q else (S w ∧ seqH P ops Q S eff l (a.put o.dst undef) w))
    else ∃ v, YieldsIf P ops S o v a ∧ seqH P ops Q S eff l (a.put o.dst v) w

/-- Is the order l good? Each operation may come up where it stands; a reading one is free there; a writing one is then the only one that may. -/
def seqB (md : Region.Mode) (ops : Array Oper) (eff : List Nat) : List Nat → Array Bool → Bool
  | [], listed => (Region.ready md ops listed).isEmpty
  | i :: l, listed => (Region.ready md ops listed).contains i && decide (i < ops.size) && (if eff.contains i then (Region.ready md ops listed).all (· == i) else Region.free md ops listed i) && seqB md ops eff l (listed.setIfInBounds i true)

section
variable {P : Program} {ops : Array Oper} {Q : Exit → Act → World → Prop} {md : Region.Mode} {S : World → Prop} {eff : List Nat}

theorem seqH_any (hsel : Region.noSelect ops = true) (hQ : ∀ (i : Nat) (o : Oper), ops[i]? = some o → ∀ (v : Value) (c : List PanicEntry) (a : Act) (w : World), Q (.panic c) (a.put o.dst v) w → Q (.panic c) a w) :
    ∀ (l : List Nat) (listed : Array Bool) (a : Act) (w : World), seqB md ops eff l listed = true → S w → seqH P ops Q S eff (pickOps ops l) a w → wpAnyH P md ops Q S l.length listed a w
  | [], listed, a, w, hb, _, h => by
    simp only [seqB, List.isEmpty_iff] at hb
    exact ⟨hb, h⟩
  | i :: l, listed, a, w, hb, hS, h => by
    simp only [seqB, Bool.and_eq_true, decide_eq_true_eq] at hb
    obtain ⟨⟨⟨hr, hi⟩, hc⟩, hrest⟩ := hb
    have ho : ops[i]? = some ops[i] := Array.getElem?_eq_getElem hi
    have hp : pickOps ops (i :: l) = (i, ops[i]) :: pickOps ops l := by simp [pickOps, ho]
    rw [hp] at h
    simp only [seqH] at h
    by_cases he : eff.contains i = true
    · rw [if_pos he] at h hc
      simp only [List.all_eq_true, beq_iff_eq] at hc
      refine ⟨fun h0 => (by rw [h0] at hr; simp at hr), fun j hj => ?_⟩
      have hji := hc j hj
      subst hji
      unfold wpOp
      rw [ho]
      simp only
      split at h
      · rename_i hw
        rw [if_pos hw]
        left
        refine Oper.wp_mono ?_ h
        rintro a' w' ⟨hS', h'⟩
        exact ⟨hS', seqH_any hsel hQ l _ a' w' hrest hS' h'⟩
      · rename_i hw
        rw [if_neg hw]
        exact ⟨h.1, seqH_any hsel hQ l _ _ w hrest h.1 h.2⟩
    · rw [if_neg he] at h hc
      obtain ⟨v, hy, h'⟩ := h
      exact wpAnyH_take ho hsel hc hr (hQ i _ ho v) hy hS (seqH_any hsel hQ l _ _ w hrest hS h')

/-- THE BEGINNING. -/
theorem wp_region_seq {id : Nat} {a : Act} {w : World} (S : World → Prop) (l eff : List Nat) (hm : P.follows .mixedOrders = true) (hsel : Region.noSelect ops = true)
    (hB : (l.length == ops.size && seqB .any ops eff l (Array.replicate ops.size false)) = true) (hS : S w.drew)
    (h : seqH P ops (NoPanic Q) S eff (pickOps ops l) a w.drew) : (Code.region id ops true).wp P Q a w := by
  simp only [Bool.and_eq_true, beq_iff_eq] at hB
  refine wp_region_noPanic (wp_region_held (S := S) hm ?_)
  rw [← hB.1]
  exact seqH_any (md := .any) hsel (fun i o _ v c a w h => h.elim) l _ a _ (by rw [hB.1]; exact hB.2) hS h

theorem seqH_read {i : Nat} {o : Oper} {l : List (Nat × Oper)} {a : Act} {w : World} {v : Value} (he : eff.contains i = false) (hw : Region.wanted o (yielded ops a.tmps) = true)
    (hy : ∀ w, S w → (execOp a.eval o).run P w = .ok (.value v) w) (h : seqH P ops Q S eff l (a.put o.dst v) w) : seqH P ops Q S eff ((i, o) :: l) a w := by
  simp only [seqH, he, Bool.false_eq_true, if_false]
  exact ⟨v, .inl ⟨hw, hy⟩, h⟩

theorem seqH_skip {i : Nat} {o : Oper} {l : List (Nat × Oper)} {a : Act} {w : World} (he : eff.contains i = false) (hw : Region.wanted o (yielded ops a.tmps) = false)
    (h : seqH P ops Q S eff l (a.put o.dst undef) w) : seqH P ops Q S eff ((i, o) :: l) a w := by
  simp only [seqH, he, Bool.false_eq_true, if_false]
  exact ⟨undef, .inr ⟨hw, rfl⟩, h⟩

theorem seqH_eff {i : Nat} {o : Oper} {l : List (Nat × Oper)} {a : Act} {w : World} (he : eff.contains i = true) (hw : Region.wanted o (yielded ops a.tmps) = true)
    (h : ∀ K : Act → World → Prop, Shut (∀ a w, S w → seqH P ops Q S eff l a w → K a w) → o.wp P a w K Q) : seqH P ops Q S eff ((i, o) :: l) a w := by
  simp only [seqH, he, if_true, hw]
  exact h _ (fun a w h1 h2 => ⟨h1, h2⟩)

theorem seqH_nil {a : Act} {w : World} (h : Q .normal a w) : seqH P ops (NoPanic Q) S eff [] a w := h

/-- A slice as a pointer to an array. -/
theorem wp_s2ap {o : Oper} {a : Act} {w : World} {K : Act → World → Prop} (arr : TypeId) (x : Operand) (hop : o.op = Op.sliceToArrayPointer arr x) {ao : Option Addr} {len cap n : Nat} {e : TypeId} (hx : a.eval x = .slice ao len cap)
    (hu : P.underlying arr = some (.array n e)) (hn : n ≤ len) (h : K (a.put o.dst (.pointer ao)) w) : o.wp P a w K Q := by
  unfold Oper.wp
  have hlt : ¬ len < n := by omega
  simp only [execOp, hop, hx, Instr.arrayAt, Sem.run_bind, run_underlying hu w, Result.andThen_ok, if_neg hlt, Sem.run_pure]
  exact h

theorem yields_shl {o : Oper} {a : Act} {P : Program} (tx ty : TypeId) (x y : Operand) (hop : o.op = Op.binOp .shl tx x y ty) {r : Nat} (hx : a.eval x = .int .u8 1) (hy : a.eval y = .int .i64 (r : Int)) (hr : r < 8) (w : World) :
    (execOp a.eval o).run P w = .ok (.value (B ((1 : UInt8) <<< UInt8.ofNat r))) w := by
  have h0 : ¬ ((r : Int) < 0) := by omega
  simp only [execOp, hop, hx, hy, eqGuard, Sem.run_bind]
  have h1 : (binOp .shl tx (.int .u8 1) (.int .i64 (r : Int))).run P w = .ok (B ((1 : UInt8) <<< UInt8.ofNat r)) w := by
    simp only [binOp, Op.shift, if_neg h0, Sem.run_pure, Int.toNat_natCast]
    congr 1
    have : r = 0 ∨ r = 1 ∨ r = 2 ∨ r = 3 ∨ r = 4 ∨ r = 5 ∨ r = 6 ∨ r = 7 := by omega
    rcases this with rfl | rfl | rfl | rfl | rfl | rfl | rfl | rfl <;> rfl
  simp [h1]

theorem yields_xor {o : Oper} {a : Act} {P : Program} (tx ty : TypeId) (x y : Operand) (hop : o.op = Op.binOp .xor tx x y ty) {u v : UInt8} (hx : a.eval x = B u) (hy : a.eval y = B v) (w : World) :
    (execOp a.eval o).run P w = .ok (.value (B (u ^^^ v))) w := by
  have hu : u.toNat < 256 := u.toNat_lt
  have hv : v.toNat < 256 := v.toNat_lt
  have h1 : (binOp .xor tx (B u) (B v)).run P w = .ok (B (u ^^^ v)) w := by
    simp only [B, binOp, Op.intBits]
    have e : (BitVec.ofInt IntKind.u8.bits (u.toNat : Int) ^^^ BitVec.ofInt IntKind.u8.bits (v.toNat : Int)).toNat = (u ^^^ v).toNat := by
      have e1 : BitVec.ofInt IntKind.u8.bits (u.toNat : Int) = u.toBitVec := by
        apply BitVec.eq_of_toNat_eq; simp [IntKind.bits]
      have e2 : BitVec.ofInt IntKind.u8.bits (v.toNat : Int) = v.toBitVec := by
        apply BitVec.eq_of_toNat_eq; simp [IntKind.bits]
      rw [e1, e2]; rfl
    have hlt : (u ^^^ v).toNat < 256 := (u ^^^ v).toNat_lt
    simp only [e, Sem.run_pure, if_neg (by decide : ¬ (IntKind.u8 ≠ IntKind.u8))]
    generalize (u ^^^ v).toNat = m at hlt
    have hw : IntKind.u8.wrap (m : Int) = m := by
      simp only [IntKind.wrap, IntKind.bits, IntKind.signed, Bool.false_and, Bool.false_eq_true, if_false]
      omega
    rw [hw]
  simp only [execOp, hop, hx, hy, eqGuard, Sem.run_bind]
  simp [h1]

/-- A step of a still head, its run given. -/
theorem still_by {ops : Array Oper} {w : World} {Q : Act → Prop} {a : Act} {o : Oper} {rest : List Oper} {v : Value} (hw : Region.wanted o (yielded ops a.tmps) = true) (hr : (execOp a.eval o).run P w = .ok (.value v) w)
    (h : wpStill P ops w Q rest (a.put o.dst v)) : wpStill P ops w Q (o :: rest) a := by
  refine wpStill_step fun K hK => ?_
  rw [if_pos hw]
  unfold Oper.still
  rw [hr, Oper.stillUpon_value]
  exact hK _ h

end
end Go.Im
