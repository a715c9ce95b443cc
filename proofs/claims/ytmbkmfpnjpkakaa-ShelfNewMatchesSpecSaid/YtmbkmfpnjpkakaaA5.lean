/- More arms of the walk: a store of one cell, whatever of its block is frozen; a whole row appended; a text into bytes. No program is named. -/
import Derived.Test.YtmbkmfpnjpkakaaA4
namespace Go.Im
open Go
section
variable {P : Program} {ops : Array Oper} {Q : Exit → Act → World → Prop}

theorem im_store_any {rest : List Oper} {o : Oper} {a : Act} {w : World} (hg : o.guard = none) (ty : TypeId) (x y : Operand) (hop : o.op = Op.store ty x y) {b j : Nat} {v : Value} (hx : a.eval x = .pointer (some ⟨b, j, none⟩)) (hy : a.eval y = v) (h1 : v.oneCell' = true)
    (hi : (P.info? ty).map (·.size) = some 1) {cs : Array Value} {t : TypeId} {fr : Nat × Nat} (hb : w.heap[b]? = some (.cells cs t fr)) (hj : j < cs.size) (hf : w.frozen? ⟨b, j, none⟩ = false)
    (hK : ∀ w', w'.heap[b]? = some (.cells (cs.setIfInBounds j v) t fr) → Fr (fun i => i = b) w w' → w'.heap.size = w.heap.size → wpList P ops Q rest (a.put o.dst undef) w') :
    wpList P ops Q (o :: rest) a w := by
  refine wpList_plain hg fun K hK' => ?_
  have hc : w.cell? ⟨b, j, none⟩ = some cs[j] := by rw [cell_of_blk hb, Array.getElem?_eq_getElem hj]
  have hv : v.cells = #[v] := by cases v <;> first | rfl | (simp [Value.oneCell'] at h1)
  have hst : (store ⟨b, j, none⟩ v).run P w = .ok () (w.setCell ⟨b, j, none⟩ v) := by rw [run_store _ _ _ _ _ h1, hc]; simp [hf]
  have hrun : (storeVar ty ⟨b, j, none⟩ v).run P w = .ok () (w.setCell ⟨b, j, none⟩ v) := by
    cases hq : P.info? ty with
    | none => simp [hq] at hi
    | some i =>
      have hs : i.size = 1 := by simpa [hq] using hi
      simp [storeVar, sizeOf, typeInfo, hq, hs, hv, storeCells, hst, Addr.add]
  unfold Oper.wp
  simp only [execOp, hop, hx, hy, Instr.storeAt, Instr.sureAddr, Sem.run_bind, Sem.run_pure, Result.andThen_ok, hrun]
  exact hK' _ _ (hK _ (setCell_block hb) (Fr.setCell (S := fun i => i = b) (Fr.refl _ _) (p := ⟨b, j, none⟩) (fun _ => rfl) v) (by simp))

theorem im_bytes' {rest : List Oper} {o : Oper} {a : Act} {w : World} (hg : o.guard = none) (src dst : TypeId) (x : Operand) (hop : o.op = Op.convert src dst x) (s : ByteArray) (hx : a.eval x = .string s) {e : TypeId} (hs : P.underlying src = some .string) (hd : P.underlying dst = some (.slice e)) (he : P.underlying e = some (.int .u8))
    (hK : ∀ w' cap cs fr, w'.heap[w.heap.size]? = some (.cells cs e fr) → s.size ≤ cs.size → (∀ j, j < s.size → cs[j]? = (s.data.toList[j]?).map B) → (∀ j, j < s.size → w'.frozen? ⟨w.heap.size, j, none⟩ = false) → s.size ≤ cap → Fr (fun _ => False) w w' → w'.heap.size = w.heap.size + 1 →
      wpList P ops Q rest (a.put o.dst (.slice (some ⟨w.heap.size, 0, none⟩) s.size cap)) w') : wpList P ops Q (o :: rest) a w :=
  wpList_plain hg fun _ hK' => wp_bytes src dst x hop s hx hs hd he fun w' cap cs fr b1 b2 b3 b4 b5 b6 b7 => hK' _ _ (hK w' cap cs fr b1 b2 b3 b4 b5 b6 b7)

theorem im_append_row {rest : List Oper} {o : Oper} {a : Act} {w : World} (hg : o.guard = none) (s x : Operand) (t : TypeId) (hop : o.op = .call { callee := .builtin .append, args := #[s, x], argTypes := #[t, t] })
    (base : Nat) {e : TypeId} {i : TypeInfo} {z : Value} {bytes : Nat} (ht : P.underlying t = some (.slice e)) (hi : P.info? e = some i) (hz : i.zero = some z)
    (hsize : i.size = 1) (hby : i.bytes = bytes) (hzs : z.cells.size = 1)
    {v : Value} {n : Nat} {xs : List Value} (hs : a.eval s = v) (hown : w.ownsRow base e 1 v n xs)
    {base' : Nat} {v2 : Value} {m : Nat} {ys : List Value} (hx : a.eval x = v2) (hown2 : w.ownsRow base' e 1 v2 m ys) (hm : 0 < m) (h1 : ∀ u ∈ ys, u.oneCell' = true)
    (h63 : n + m ≤ maxLen) (hbytes : (n + m) * bytes ≤ 140737488355328) (hbase : base ≤ w.heap.size)
    (h : ∀ v' w', w'.ownsRow base e 1 v' (n + m) (xs ++ ys) → Fr (fun k => base ≤ k) w w' → wpList P ops Q rest (a.put o.dst v') w') : wpList P ops Q (o :: rest) a w := by
  obtain ⟨hl, h2 | ⟨g, cap, cur, h2, h3, h4, h5, h6, h7, h8⟩⟩ := hown2
  · omega
  · subst h2
    refine wpList_append_own w hg s x t hop base e i z 1 bytes ht hi hz hsize hby hzs (by decide) v n xs hs hown ⟨g, 0, none⟩ m cap ys hx hl (fun j u hj => ?_) h1 h63 hbytes hbase fun v' w' h2 h3 _ => h v' w' h2 ((Fr.of_grown h3).mono fun k _ hk => row_block hown hk)
    have e1 : (⟨g, 0, none⟩ : Addr).add j = ⟨g, j, none⟩ := by simp [Addr.add]; omega
    rw [e1, cell_of_blk h4]
    rw [← h8, List.getElem?_take] at hj
    split at hj
    · simpa using hj
    · cases hj

theorem row_fr1 {w w' : World} {base : Nat} {e : TypeId} {size gb len vc : Nat} {n : Nat} {xs : List Value} (h : w.ownsRow base e size (.slice (some ⟨gb, 0, none⟩) len vc) n xs) {S : Nat → Prop} (f : Fr S w w') (hS : ¬ S gb) : w'.ownsRow base e size (.slice (some ⟨gb, 0, none⟩) len vc) n xs := by
  obtain ⟨h1, h2 | ⟨g, cap, cur, h2, h3, h4, h5⟩⟩ := h
  · exact absurd h2.1 (by intro h; injection h with h; cases h)
  · injection h2 with h2 h2' h2''
    injection h2 with h2
    injection h2 with h2
    subst h2
    have hlt := lt_of_blk h4
    exact ⟨h1, .inr ⟨gb, cap, cur, by rw [h2', h2''], h3, (f.block gb hlt hS).trans h4, h5⟩⟩

/-- A row with no element and no room, just laid. -/
theorem row_zero (w : World) (base : Nat) (e : TypeId) (hb : base ≤ w.heap.size) : (w.alloc (.cells #[] e)).ownsRow base e 1 (.slice (some ⟨w.heap.size, 0, none⟩) 0 0) 0 [] :=
  ⟨rfl, .inr ⟨w.heap.size, 0, #[], rfl, hb, heap_alloc_new w _, Nat.le_refl _, Nat.zero_le _, rfl, rfl⟩⟩

/-- A lookup with its answer known. -/
theorem im_lookup_okv {rest : List Oper} {o : Oper} {a : Act} {w : World} (hg : o.guard = none) (m x : Operand) (t : TypeId) (hop : o.op = Op.lookup t m x true) {kt et : TypeId} {kd : IntKind} (ht : P.underlying t = some (.map kt et)) (hk : P.underlying kt = some (.int kd))
    {z : Value} (hz : (zeroValue et).run P w = .ok z w) {b : Nat} {f} (k : Int) (hm : a.eval m = .map (some b)) (hx : a.eval x = .int .i64 k) (h : At w b f) (v : Value) (c : Bool) (hv : (f k).getD z = v) (hc : (f k).isSome = c)
    (hK : wpList P ops Q rest (a.put o.dst (.tuple #[v, .bool c])) w) : wpList P ops Q (o :: rest) a w := by
  subst hv; subst hc; exact im_lookup_ok hg m x t hop ht hk hz k hm hx h hK
end
end Go.Im
