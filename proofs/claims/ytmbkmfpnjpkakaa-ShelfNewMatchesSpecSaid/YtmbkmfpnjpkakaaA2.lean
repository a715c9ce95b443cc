/- Laws on blocks of many cells, at an operation of a walk: a new array, a store of a whole array, a load, texts into bytes and back. The world behind each is a letter with facts. No program is named. -/
import Derived.Test.YtmbkmfpnjpkakaaA1
import Derived.Deep.MidRow
namespace Go.Im
open Go
variable {P : Program} {ops : Array Oper} {rest : List Oper} {o : Oper} {a : Act} {w : World} {Q : Exit → Act → World → Prop}

/-- A byte as a value; a text as cells. -/
def B (x : UInt8) : Value := .int .u8 (x.toNat : Int)
def cellsB (l : List UInt8) : Array Value := (l.map B).toArray

theorem cellsB_size (l : List UInt8) : (cellsB l).size = l.length := by simp [cellsB]
theorem cellsB_get (l : List UInt8) (j : Nat) : (cellsB l)[j]? = (l[j]?).map B := by simp [cellsB]
theorem B_inj {x y : UInt8} (h : B x = B y) : x = y := by
  simp only [B, Value.int.injEq, true_and] at h
  exact UInt8.toNat_inj.1 (by omega)
theorem cellsB_inj {l m : List UInt8} (h : cellsB l = cellsB m) : l = m := by
  have h' : l.map B = m.map B := by simpa [cellsB] using h
  exact (List.map_inj_right (fun _ _ => B_inj)).1 h'
theorem B_one (x : UInt8) : (B x).oneCell' = true := rfl
theorem cellsB_one (l : List UInt8) : (cellsB l).all (·.oneCell') = true := by
  simp [cellsB, B_one]

def splice (cs : Array Value) : Nat → List Value → Array Value
  | _, [] => cs
  | o, v :: r => splice (cs.setIfInBounds o v) (o + 1) r

theorem splice_size : ∀ (vs : List Value) (cs : Array Value) (o : Nat), (splice cs o vs).size = cs.size
  | [], _, _ => rfl
  | v :: r, cs, o => by rw [splice, splice_size r]; simp

theorem splice_get : ∀ (vs : List Value) (cs : Array Value) (o : Nat), o + vs.length ≤ cs.size → ∀ j, (splice cs o vs)[j]? = if o ≤ j ∧ j < o + vs.length then vs[j - o]? else cs[j]?
  | [], cs, o, _, j => by rw [splice, if_neg (by intro h; simp at h; omega)]
  | v :: r, cs, o, h, j => by
    simp only [List.length_cons] at h ⊢
    rw [splice, splice_get r _ _ (by simp; omega)]
    by_cases h1 : o + 1 ≤ j ∧ j < o + 1 + r.length
    · rw [if_pos h1, if_pos (by omega), show j - o = (j - (o + 1)) + 1 by omega]; simp
    · rw [if_neg h1]
      by_cases h2 : j = o
      · subst h2
        rw [if_pos (by omega)]
        simp only [Nat.sub_self, List.getElem?_cons_zero]
        rw [Array.getElem?_setIfInBounds]; simp; omega
      · rw [if_neg (by omega), Array.getElem?_setIfInBounds_ne (fun e => h2 e.symm)]

theorem splice_whole (cs vs : Array Value) (h : vs.size = cs.size) : splice cs 0 vs.toList = vs := by
  apply Array.ext_getElem?
  intro j
  rw [splice_get _ _ _ (by simp; omega)]
  by_cases hj : j < vs.size
  · rw [if_pos (by simp; exact hj)]; simp
  · rw [if_neg (by simp; omega), Array.getElem?_eq_none (by omega), Array.getElem?_eq_none (by omega)]

theorem setCell_block {b o : Nat} {v : Value} {cs : Array Value} {t : TypeId} {fr : Nat × Nat} (hb : w.heap[b]? = some (.cells cs t fr)) :
    (w.setCell ⟨b, o, none⟩ v).heap[b]? = some (.cells (cs.setIfInBounds o v) t fr) := by
  simp [World.setCell, Array.getElem?_modify, hb]

theorem setCells_block (b : Nat) : ∀ (vs : List Value) (o : Nat) (w : World) (cs : Array Value) (t : TypeId) (fr : Nat × Nat), w.heap[b]? = some (.cells cs t fr) →
    (w.setCells b o vs).heap[b]? = some (.cells (splice cs o vs) t fr)
  | [], _, _, _, _, _, hb => hb
  | v :: r, o, w, cs, t, fr, hb => by
    rw [World.setCells, splice]
    exact setCells_block b r (o + 1) _ _ _ _ (setCell_block hb)

theorem setCells_fr (b : Nat) : ∀ (vs : List Value) (o : Nat) (w : World), Fr (fun i => i = b) w (w.setCells b o vs) ∧ (w.setCells b o vs).heap.size = w.heap.size
  | [], _, w => ⟨Fr.refl _ _, rfl⟩
  | v :: r, o, w => by
    rw [World.setCells]
    obtain ⟨h1, h2⟩ := setCells_fr b r (o + 1) (w.setCell ⟨b, o, none⟩ v)
    exact ⟨(Fr.setCell (S := fun i => i = b) (Fr.refl _ w) (p := ⟨b, o, none⟩) (fun _ => rfl) v).trans h1, by rw [h2]; simp⟩

theorem cell_of_blk {b j : Nat} {cs : Array Value} {t : TypeId} {fr : Nat × Nat} (hb : w.heap[b]? = some (.cells cs t fr)) : w.cell? ⟨b, j, none⟩ = cs[j]? := by
  simp [World.cell?, hb]
theorem frozen_of_blk {b j : Nat} {cs : Array Value} {t : TypeId} (hb : w.heap[b]? = some (.cells cs t (0, 0))) : w.frozen? ⟨b, j, none⟩ = false := by
  simp [World.frozen?, hb]
theorem lt_of_blk {b : Nat} {x : Obj} (hb : w.heap[b]? = some x) : b < w.heap.size := (Array.getElem?_eq_some_iff.1 hb).1

theorem there_of_blk {b o n : Nat} {cs : Array Value} {t : TypeId} (hb : w.heap[b]? = some (.cells cs t (0, 0))) (h : o + n ≤ cs.size) : w.there b o n := fun j hj =>
  ⟨by rw [cell_of_blk hb, Array.getElem?_eq_getElem (by omega)]; rfl, frozen_of_blk hb⟩
theorem range_of_blk {b o : Nat} {cs : Array Value} {t : TypeId} {fr : Nat × Nat} (hb : w.heap[b]? = some (.cells cs t fr)) {vs : List Value} (h : ∀ j v, vs[j]? = some v → cs[o + j]? = some v) : w.rangeAt b o vs := fun j v hv => by
  rw [cell_of_blk hb]; exact h j v hv

/-- A new variable of an array's type. -/
theorem im_alloc_row (hg : o.guard = none) (t : TypeId) (hop : o.op = Op.alloc t) {z : Array Value} (hz : (zeroValue t).run P w = .ok (.agg z) w)
    (hK : ∀ w', w'.heap[w.heap.size]? = some (.cells z t (0, 0)) → Fr (fun _ => False) w w' → w'.heap.size = w.heap.size + 1 → wpList P ops Q rest (a.put o.dst (.pointer (some ⟨w.heap.size, 0, none⟩))) w') :
    wpList P ops Q (o :: rest) a w := by
  refine wpList_plain hg fun K' hK' => ?_
  unfold Oper.wp
  simp only [execOp, hop, Instr.alloc, Sem.run_bind, hz, Result.andThen_ok, newVar, newRow, Value.cells, run_newObj, Sem.run_pure]
  refine hK' _ _ (hK (w.alloc _) (heap_alloc_new w _) ((Fr.refl _ _).alloc _) (by simp))

/-- A store of a whole array into the middle of a block. -/
theorem im_store_mid2 (hg : o.guard = none) (ty : TypeId) (x y : Operand) (hop : o.op = Op.store ty x y) {b p : Nat} {vs : Array Value} (hx : a.eval x = .pointer (some ⟨b, p, none⟩)) (hy : a.eval y = .agg vs)
    {cs : Array Value} {t : TypeId} (hb : w.heap[b]? = some (.cells cs t (0, 0))) (hsz : p + vs.size ≤ cs.size) (hi : (P.info? ty).map (·.size) = some vs.size) (h1 : vs.all (·.oneCell') = true)
    (hK : ∀ w', w'.heap[b]? = some (.cells (splice cs p vs.toList) t (0, 0)) → Fr (fun i => i = b) w w' → w'.heap.size = w.heap.size → wpList P ops Q rest (a.put o.dst undef) w') :
    wpList P ops Q (o :: rest) a w := by
  refine wpList_plain hg fun K' hK' => wp_store_mid ty x y hop b p vs hx hy (there_of_blk hb hsz) hi h1 ?_
  obtain ⟨f1, f2⟩ := setCells_fr b vs.toList p w
  exact hK' _ _ (hK _ (setCells_block b _ _ _ _ _ _ hb) f1 f2)

theorem im_store_row (hg : o.guard = none) (ty : TypeId) (x y : Operand) (hop : o.op = Op.store ty x y) {b : Nat} {vs : Array Value} (hx : a.eval x = .pointer (some ⟨b, 0, none⟩)) (hy : a.eval y = .agg vs)
    {cs : Array Value} {t : TypeId} (hb : w.heap[b]? = some (.cells cs t (0, 0))) (hsz : vs.size = cs.size) (hi : (P.info? ty).map (·.size) = some vs.size) (h1 : vs.all (·.oneCell') = true)
    (hK : ∀ w', w'.heap[b]? = some (.cells vs t (0, 0)) → Fr (fun i => i = b) w w' → w'.heap.size = w.heap.size → wpList P ops Q rest (a.put o.dst undef) w') :
    wpList P ops Q (o :: rest) a w :=
  im_store_mid2 hg ty x y hop hx hy hb (by omega) hi h1 fun w' h => hK w' (by rwa [splice_whole cs vs hsz] at h)

/-- A store of one cell, the world a letter. -/
theorem wp_store1 {K : Act → World → Prop} (ty : TypeId) (x y : Operand) (hop : o.op = Op.store ty x y) {b j : Nat} {v : Value} (hx : a.eval x = .pointer (some ⟨b, j, none⟩)) (hy : a.eval y = v) (h1 : v.oneCell' = true)
    (hi : (P.info? ty).map (·.size) = some 1) {cs : Array Value} {t : TypeId} (hb : w.heap[b]? = some (.cells cs t (0, 0))) (hj : j < cs.size)
    (hK : ∀ w', w'.heap[b]? = some (.cells (cs.setIfInBounds j v) t (0, 0)) → Fr (fun i => i = b) w w' → w'.heap.size = w.heap.size → K (a.put o.dst undef) w') : o.wp P a w K Q := by
  have hc : w.cell? ⟨b, j, none⟩ = some cs[j] := by rw [cell_of_blk hb, Array.getElem?_eq_getElem hj]
  have hf : w.frozen? ⟨b, j, none⟩ = false := frozen_of_blk hb
  have hv : v.cells = #[v] := by cases v <;> first | rfl | (simp [Value.oneCell'] at h1)
  have hst : (store ⟨b, j, none⟩ v).run P w = .ok () (w.setCell ⟨b, j, none⟩ v) := by rw [run_store _ _ _ _ _ h1, hc]; simp [hf]
  have hrun : (storeVar ty ⟨b, j, none⟩ v).run P w = .ok () (w.setCell ⟨b, j, none⟩ v) := by
    cases hq : P.info? ty with
    | none => simp [hq] at hi
    | some i =>
      have hs : i.size = 1 := by simpa [hq] using hi
      simp [storeVar, sizeOf, typeInfo, hq, hs, hv, storeCells, hst, Addr.add]
  unfold Oper.wp
  simp only [execOp, hop, hx, hy, Instr.storeAt, Instr.sureAddr, Sem.run_bind, Sem.run_pure, Result.andThen_ok, hrun]
  exact hK _ (setCell_block hb) (Fr.setCell (S := fun i => i = b) (Fr.refl _ _) (p := ⟨b, j, none⟩) (fun _ => rfl) v) (by simp)

theorem im_store1 (hg : o.guard = none) (ty : TypeId) (x y : Operand) (hop : o.op = Op.store ty x y) {b j : Nat} {v : Value} (hx : a.eval x = .pointer (some ⟨b, j, none⟩)) (hy : a.eval y = v) (h1 : v.oneCell' = true)
    (hi : (P.info? ty).map (·.size) = some 1) {cs : Array Value} {t : TypeId} (hb : w.heap[b]? = some (.cells cs t (0, 0))) (hj : j < cs.size)
    (hK : ∀ w', w'.heap[b]? = some (.cells (cs.setIfInBounds j v) t (0, 0)) → Fr (fun i => i = b) w w' → w'.heap.size = w.heap.size → wpList P ops Q rest (a.put o.dst undef) w') :
    wpList P ops Q (o :: rest) a w :=
  wpList_plain hg fun _ hK' => wp_store1 ty x y hop hx hy h1 hi hb hj fun w' a1 a2 a3 => hK' _ _ (hK w' a1 a2 a3)

/-- A text into bytes: a new block; its first cells are the text. -/
theorem run_bytes (s : ByteArray) (src dst e : TypeId) (hs : P.underlying src = some .string) (hd : P.underlying dst = some (.slice e)) (he : P.underlying e = some (.int .u8)) :
    ∃ w' cap cs fr, (convert src dst (.string s)).run P w = .ok (.slice (some ⟨w.heap.size, 0, none⟩) s.size cap) w' ∧ w'.heap[w.heap.size]? = some (.cells cs e fr) ∧ s.size ≤ cs.size ∧
      (∀ j, j < s.size → cs[j]? = (s.data.toList[j]?).map B) ∧ (∀ j, j < s.size → w'.frozen? ⟨w.heap.size, j, none⟩ = false) ∧ s.size ≤ cap ∧ Fr (fun _ => False) w w' ∧ w'.heap.size = w.heap.size + 1 := by
  have hcap : s.size ≤ grownCap w s.size 0 e := by simp [grownCap, Question.cut]
  have hsz : (bytesRow s (grownCap w s.size 0 e)).size = s.size + (grownCap w s.size 0 e - s.size) := by
    simp only [bytesRow, Array.size_append, Array.size_map, Array.size_replicate]; rfl
  refine ⟨_, _, _, _, run_bytes_of_string w src dst e s hs hd he, heap_alloc_new w.drew _, by omega, ?_, ?_, hcap, ((Fr.refl _ w).drew.alloc _), by simp⟩
  · intro j hj
    have hj' : j < s.data.size := hj
    simp only [bytesRow]
    rw [Array.getElem?_append_left (by simpa using hj')]
    simp; rfl
  · intro j hj
    have := heap_alloc_new w.drew (.cells (bytesRow s (grownCap w s.size 0 e)) e ((bytesRow s (grownCap w s.size 0 e)).size, (bytesRow s (grownCap w s.size 0 e)).size + 1))
    unfold World.frozen?
    simp only [World.size_drew] at this
    rw [this]
    simp only [decide_eq_true_eq, Bool.and_eq_false_imp]
    intro h; simp; omega

theorem wp_bytes {K : Act → World → Prop} (src dst : TypeId) (x : Operand) (hop : o.op = Op.convert src dst x) (s : ByteArray) (hx : a.eval x = .string s) {e : TypeId} (hs : P.underlying src = some .string) (hd : P.underlying dst = some (.slice e)) (he : P.underlying e = some (.int .u8))
    (hK : ∀ w' cap cs fr, w'.heap[w.heap.size]? = some (.cells cs e fr) → s.size ≤ cs.size → (∀ j, j < s.size → cs[j]? = (s.data.toList[j]?).map B) → (∀ j, j < s.size → w'.frozen? ⟨w.heap.size, j, none⟩ = false) → s.size ≤ cap → Fr (fun _ => False) w w' → w'.heap.size = w.heap.size + 1 →
      K (a.put o.dst (.slice (some ⟨w.heap.size, 0, none⟩) s.size cap)) w') : o.wp P a w K Q := by
  obtain ⟨w', cap, cs, fr, h1, h2, h3, h4, h5, h6, h7, h8⟩ := run_bytes (P := P) (w := w) s src dst e hs hd he
  unfold Oper.wp
  simp only [execOp, hop, hx, Sem.run_bind, h1, Result.andThen_ok, Sem.run_pure]
  exact hK w' cap cs fr h2 h3 h4 h5 h6 h7 h8

/-- A text into bytes, the world written out (behind one draw). -/
theorem run_bytes_drew (w : World) (s : ByteArray) (src dst : TypeId) {e : TypeId} (hs : P.underlying src = some .string) (hd : P.underlying dst = some (.slice e)) (he : P.underlying e = some (.int .u8)) :
    ∃ X cap fr, (convert src dst (.string s)).run P w.drew = .ok (.slice (some ⟨w.heap.size, 0, none⟩) s.size cap) (w.alloc (.cells X e fr)).drew.drew ∧ s.size ≤ X.size ∧
      (∀ j, j < s.size → X[j]? = (s.data.toList[j]?).map B) ∧ s.size ≤ cap ∧ X.size ≤ fr.1 := by
  have hcap : s.size ≤ grownCap w.drew s.size 0 e := by simp [grownCap, Question.cut]
  have hsz : (bytesRow s (grownCap w.drew s.size 0 e)).size = s.size + (grownCap w.drew s.size 0 e - s.size) := by
    simp only [bytesRow, Array.size_append, Array.size_map, Array.size_replicate]; rfl
  refine ⟨_, _, _, run_bytes_of_string w.drew src dst e s hs hd he, by omega, ?_, hcap, Nat.le_refl _⟩
  intro j hj
  have hj' : j < s.data.size := hj
  simp only [bytesRow]
  rw [Array.getElem?_append_left (by simpa using hj')]
  simp; rfl

/-- The bytes of a text that was laid as bytes. -/
theorem range_bytes {b : Nat} {cs : Array Value} {t : TypeId} {fr : Nat × Nat} {s : ByteArray} (hb : w.heap[b]? = some (.cells cs t fr)) (h : ∀ j, j < s.size → cs[j]? = (s.data.toList[j]?).map B) : w.rangeAt b 0 (s.data.toList.map B) := by
  refine range_of_blk hb fun j v hv => ?_
  rw [List.getElem?_map] at hv
  cases hx : s.data.toList[j]? with
  | none => simp [hx] at hv
  | some x =>
    have hj : j < s.size := by simpa using (List.getElem?_eq_some_iff.1 hx).1
    rw [Nat.zero_add, h j hj, hx]; simpa [hx] using hv

end Go.Im
