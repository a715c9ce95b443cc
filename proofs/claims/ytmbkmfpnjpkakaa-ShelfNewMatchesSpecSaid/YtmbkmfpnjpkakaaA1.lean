/- Laws on maps with int keys, at an operation of a walk. No program is named. -/
import Derived.Test.YtmbkmfpnjpkakaaA0
import Derived.Deep.RegionHeld3
import Derived.Maps.OwnOps
import Derived.Maps.OwnSet
import Derived.Maps.RangeWalk
namespace Go.Im
open Go
variable {P : Program} {ops : Array Oper} {rest : List Oper} {o : Oper} {a : Act} {w : World} {Q : Exit → Act → World → Prop}

theorem lk_if (c : Bool) (x y : Value) : (if c = true then x else y) = (if c then x else y) := rfl

theorem im_lookup_ok (hg : o.guard = none) (m x : Operand) (t : TypeId) (hop : o.op = Op.lookup t m x true) {kt et : TypeId} {kd : IntKind} (ht : P.underlying t = some (.map kt et)) (hk : P.underlying kt = some (.int kd))
    {z : Value} (hz : (zeroValue et).run P w = .ok z w) {b : Nat} {f} (k : Int) (hm : a.eval m = .map (some b)) (hx : a.eval x = .int .i64 k) (h : At w b f)
    (hK : wpList P ops Q rest (a.put o.dst (.tuple #[(f k).getD z, .bool (f k).isSome])) w) : wpList P ops Q (o :: rest) a w := by
  refine wpList_plain hg fun K' hK' => ?_
  unfold Oper.wp
  simp only [execOp, hop, hm, hx, Sem.run_bind, run_lookup ht hk hz h, Result.andThen_ok, Sem.run_pure, if_true]
  exact hK' _ _ hK

theorem im_lookup (hg : o.guard = none) (m x : Operand) (t : TypeId) (hop : o.op = Op.lookup t m x false) {kt et : TypeId} {kd : IntKind} (ht : P.underlying t = some (.map kt et)) (hk : P.underlying kt = some (.int kd))
    {z : Value} (hz : (zeroValue et).run P w = .ok z w) {b : Nat} {f} (k : Int) (hm : a.eval m = .map (some b)) (hx : a.eval x = .int .i64 k) (h : At w b f)
    (hK : wpList P ops Q rest (a.put o.dst ((f k).getD z)) w) : wpList P ops Q (o :: rest) a w := by
  refine wpList_plain hg fun K' hK' => ?_
  unfold Oper.wp
  simp only [execOp, hop, hm, hx, Sem.run_bind, run_lookup ht hk hz h, Result.andThen_ok, Sem.run_pure, if_false, Bool.false_eq_true]
  exact hK' _ _ hK

theorem wp_mapUpdate {K : Act → World → Prop} (m x v : Operand) (t : TypeId) (hop : o.op = Op.mapUpdate t m x v) {kt et : TypeId} {kd : IntKind} (ht : P.underlying t = some (.map kt et)) (hk : P.underlying kt = some (.int kd))
    {b : Nat} {f} (k : Int) (val : Value) (hm : a.eval m = .map (some b)) (hx : a.eval x = .int .i64 k) (hv : a.eval v = val) (h : At w b f)
    (hK : ∀ w', At w' b (upd f k (some val)) → Fr (fun i => i = b) w w' → w'.heap.size = w.heap.size → K (a.put o.dst undef) w') : o.wp P a w K Q := by
  obtain ⟨w', h1, h2, h3, h4⟩ := run_mapUpdate (P := P) ht hk h k val
  unfold Oper.wp
  simp only [execOp, hop, hm, hx, hv, Sem.run_bind, h1, Result.andThen_ok, Sem.run_pure]
  exact hK w' h2 h3 h4

theorem im_mapUpdate (hg : o.guard = none) (m x v : Operand) (t : TypeId) (hop : o.op = Op.mapUpdate t m x v) {kt et : TypeId} {kd : IntKind} (ht : P.underlying t = some (.map kt et)) (hk : P.underlying kt = some (.int kd))
    {b : Nat} {f} (k : Int) (val : Value) (hm : a.eval m = .map (some b)) (hx : a.eval x = .int .i64 k) (hv : a.eval v = val) (h : At w b f)
    (hK : ∀ w', At w' b (upd f k (some val)) → Fr (fun i => i = b) w w' → w'.heap.size = w.heap.size → wpList P ops Q rest (a.put o.dst undef) w') : wpList P ops Q (o :: rest) a w :=
  wpList_plain hg fun _ hK' => wp_mapUpdate m x v t hop ht hk k val hm hx hv h fun w' h1 h2 h3 => hK' _ _ (hK w' h1 h2 h3)

theorem im_delete (hg : o.guard = none) (m x : Operand) (t t2 : TypeId) (hop : o.op = Op.call { callee := .builtin .delete, args := #[m, x], argTypes := #[t, t2] }) {kt et : TypeId} {kd : IntKind} (ht : P.underlying t = some (.map kt et)) (hk : P.underlying kt = some (.int kd))
    {b : Nat} {f} (k : Int) (hm : a.eval m = .map (some b)) (hx : a.eval x = .int .i64 k) (h : At w b f)
    (hK : ∀ w', At w' b (upd f k none) → Fr (fun i => i = b) w w' → w'.heap.size = w.heap.size → wpList P ops Q rest (a.put o.dst (.tuple #[])) w') : wpList P ops Q (o :: rest) a w := by
  refine wpList_plain hg fun K' hK' => ?_
  obtain ⟨w', h1, h2, h3, h4⟩ := run_delete (P := P) ht hk t2 o.type h k
  unfold Oper.wp
  simp [execOp, hop, resolve, invoke, builtin, hm, hx, h1, Result.andThen]
  exact hK' _ _ (hK w' h2 h3 h4)

theorem im_clear (hg : o.guard = none) (m : Operand) (t : TypeId) (hop : o.op = Op.call { callee := .builtin .clear, args := #[m], argTypes := #[t] }) {kt et : TypeId} (ht : P.underlying t = some (.map kt et))
    {b : Nat} {f} (hm : a.eval m = .map (some b)) (h : At w b f)
    (hK : ∀ w', At w' b (fun _ => none) → Fr (fun i => i = b) w w' → w'.heap.size = w.heap.size → wpList P ops Q rest (a.put o.dst (.tuple #[])) w') : wpList P ops Q (o :: rest) a w := by
  refine wpList_plain hg fun K' hK' => ?_
  obtain ⟨w', h1, h2, h3, h4⟩ := run_clear (P := P) ht o.type h
  unfold Oper.wp
  simp [execOp, hop, resolve, invoke, builtin, hm, h1, Result.andThen]
  exact hK' _ _ (hK w' h2 h3 h4)

theorem im_range (hg : o.guard = none) (m : Operand) (t : TypeId) (hop : o.op = Op.range t m) {kt et : TypeId} (ht : P.underlying t = some (.map kt et))
    {b : Nat} {f} (hm : a.eval m = .map (some b)) (h : At w b f)
    (hK : ∀ w', Iter w' w.heap.size b f [] → Fr (fun _ => False) w w' → w'.heap.size = w.heap.size + 1 → wpList P ops Q rest (a.put o.dst (.pointer (some ⟨w.heap.size, 0, none⟩))) w') : wpList P ops Q (o :: rest) a w := by
  refine wpList_plain hg fun K' hK' => ?_
  obtain ⟨w', h1, h2, h3, h4⟩ := run_range (P := P) ht h
  unfold Oper.wp
  simp only [execOp, hop, hm, Sem.run_bind, h1, Result.andThen_ok, Sem.run_pure]
  exact hK' _ _ (hK w' h2 h3 h4)

theorem im_next (hg : o.guard = none) (m : Operand) (hop : o.op = Op.next m false)
    {r b : Nat} {f ks} (hm : a.eval m = .pointer (some ⟨r, 0, none⟩)) (h : Iter w r b f ks)
    (hK1 : ∀ w', (∀ k, (f k).isSome = true → k ∈ ks) → Fr (fun _ => False) w w' → w'.heap = w.heap → wpList P ops Q rest (a.put o.dst (.tuple #[.bool false])) w')
    (hK2 : ∀ w' k v, f k = some v → k ∉ ks → IterAt w' r b f (ks ++ [k]) k v → Fr (fun i => i = r) w w' → w'.heap.size = w.heap.size → wpList P ops Q rest (a.put o.dst (.tuple #[.bool true, .int .i64 k, v])) w') :
    wpList P ops Q (o :: rest) a w := by
  refine wpList_plain hg fun K' hK' => ?_
  rcases run_next (P := P) h o.type with ⟨w', h1, h2, h3, h4⟩ | ⟨w', k, v, h1, h2, h3, h4, h5, h6⟩
  · unfold Oper.wp
    simp only [execOp, hop, hm, Sem.run_bind, h1, Result.andThen_ok, Sem.run_pure]
    exact hK' _ _ (hK1 w' h2 h3 h4)
  · unfold Oper.wp
    simp only [execOp, hop, hm, Sem.run_bind, h1, Result.andThen_ok, Sem.run_pure]
    exact hK' _ _ (hK2 w' k v h2 h3 h4 h5 h6)

theorem im_entry (hg : o.guard = none) (m : Operand) (hop : o.op = Op.entry m)
    {r b : Nat} {f ks k v} (hm : a.eval m = .pointer (some ⟨r, 0, none⟩)) (h : IterAt w r b f ks k v)
    (hK : wpList P ops Q rest (a.put o.dst (.tuple #[.int .i64 k, v])) w) : wpList P ops Q (o :: rest) a w := by
  refine wpList_plain hg fun K' hK' => ?_
  unfold Oper.wp
  simp only [execOp, hop, hm, Sem.run_bind, run_entry h, Result.andThen_ok, Sem.run_pure]
  exact hK' _ _ hK

end Go.Im
