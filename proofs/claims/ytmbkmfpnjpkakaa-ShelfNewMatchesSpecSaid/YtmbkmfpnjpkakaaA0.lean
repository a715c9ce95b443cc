/- Laws on maps whose keys are ints, whatever their elements: a block that reads as a function from ints to values; look-up, store, delete, clear, iteration. No program is named. -/
import Derived.Maps.Own
import Derived.WalkKit
import Derived.Lib.Hide
import Derived.Deep.QuietTactic
import Derived.BigQuiet
namespace Go.Im
open Go

/-- w' is w but for the blocks in S and for new blocks; draws apart. -/
structure Fr (S : Nat → Prop) (w w' : World) : Prop where
  os : w'.os = w.os
  tape : w'.tape = w.tape
  output : w'.output = w.output
  size : w.heap.size ≤ w'.heap.size
  block : ∀ k, k < w.heap.size → ¬ S k → w'.heap[k]? = w.heap[k]?

theorem Fr.refl (S : Nat → Prop) (w : World) : Fr S w w := ⟨rfl, rfl, rfl, Nat.le_refl _, fun _ _ _ => rfl⟩
theorem Fr.trans' {S T U : Nat → Prop} {a b c : World} (h : Fr S a b) (k : Fr T b c) (hS : ∀ i, i < a.heap.size → S i → U i) (hT : ∀ i, i < a.heap.size → T i → U i) : Fr U a c :=
  ⟨k.os.trans h.os, k.tape.trans h.tape, k.output.trans h.output, Nat.le_trans h.size k.size,
   fun i hi hn => (k.block i (Nat.lt_of_lt_of_le hi h.size) (fun ht => hn (hT i hi ht))).trans (h.block i hi (fun hs => hn (hS i hi hs)))⟩
theorem Fr.trans {S : Nat → Prop} {a b c : World} (h : Fr S a b) (k : Fr S b c) : Fr S a c := h.trans' k (fun _ _ h => h) (fun _ _ h => h)
theorem Fr.mono {S T : Nat → Prop} {a b : World} (h : Fr S a b) (hS : ∀ i, i < a.heap.size → S i → T i) : Fr T a b :=
  ⟨h.os, h.tape, h.output, h.size, fun i hi hn => h.block i hi (fun hs => hn (hS i hi hs))⟩
theorem Fr.drew {S : Nat → Prop} {a b : World} (h : Fr S a b) : Fr S a b.drew := ⟨h.os, h.tape, h.output, h.size, h.block⟩
theorem Fr.drewN {S : Nat → Prop} {a b : World} (h : Fr S a b) (n : Nat) : Fr S a (b.drewN n) := ⟨h.os, h.tape, h.output, h.size, h.block⟩
theorem Fr.undrew {S : Nat → Prop} {a b : World} (h : Fr S a.drew b) : Fr S a b := ⟨h.os, h.tape, h.output, h.size, h.block⟩
theorem Fr.alloc {S : Nat → Prop} {a b : World} (h : Fr S a b) (o : Obj) : Fr S a (b.alloc o) :=
  h.trans' (T := fun _ => False) ⟨rfl, rfl, rfl, by simp, fun k hk _ => RowKit.Below.heap_alloc _ _ _ hk⟩ (fun _ _ h => h) (fun _ _ h => h.elim)
theorem Fr.setCell {S : Nat → Prop} {a b : World} (h : Fr S a b) {p : Addr} (hp : p.block < a.heap.size → S p.block) (u : Value) : Fr S a (b.setCell p u) :=
  h.trans' (T := fun k => k = p.block) ⟨rfl, rfl, rfl, by simp, fun k _ hk => RowKit.Below.heap_setCell _ _ _ _ hk⟩ (fun _ _ h => h) (fun i hi h => by subst h; exact hp hi)
theorem Fr.below {w w' : World} (h : Fr (fun _ => False) w w') : RowKit.Below w.heap.size w w' := ⟨h.os, h.tape, h.output, h.size, fun k hk => h.block k hk (fun h => h)⟩
theorem Fr.of_below {w w' : World} (h : RowKit.Below w.heap.size w w') (S : Nat → Prop) : Fr S w w' := ⟨h.os, h.tape, h.output, h.size, fun k hk _ => h.block k hk⟩
theorem Fr.cell {S : Nat → Prop} {w w' : World} (h : Fr S w w') {p : Addr} (hp : p.block < w.heap.size) (hn : ¬ S p.block) : w'.cell? p = w.cell? p := World.cell?_of_block (w := w) (h.block p.block hp hn)
theorem Fr.frozen {S : Nat → Prop} {w w' : World} (h : Fr S w w') {p : Addr} (hp : p.block < w.heap.size) (hn : ¬ S p.block) : w'.frozen? p = w.frozen? p := World.frozen?_of_block (w := w) (h.block p.block hp hn)

theorem Fr.cb {S : Nat → Prop} {w w' : World} (h : Fr S w w') {b o : Nat} (hp : b < w.heap.size) (hn : ¬ S b) : w'.cell? ⟨b, o, none⟩ = w.cell? ⟨b, o, none⟩ := h.cell (p := ⟨b, o, none⟩) hp hn
theorem Fr.fb {S : Nat → Prop} {w w' : World} (h : Fr S w w') {b o : Nat} (hp : b < w.heap.size) (hn : ¬ S b) : w'.frozen? ⟨b, o, none⟩ = w.frozen? ⟨b, o, none⟩ := h.frozen (p := ⟨b, o, none⟩) hp hn

/-- The entries of a map with int keys read as f. -/
structure Reads (es : Array MapEntry) (clock : Nat) (f : Int → Option Value) : Prop where
  keys : ∀ e ∈ es.toList, ∃ k : Int, e.key = .int .i64 k
  read : ∀ k v, f k = some v ↔ ∃ e ∈ es.toList, e.key = .int .i64 k ∧ e.val = v
  born : ∀ e ∈ es.toList, e.born < clock
  nodupK : (es.toList.map (·.key)).Nodup
  nodupB : (es.toList.map (·.born)).Nodup

/-- Block b of w is a map with int keys that reads as f. -/
def At (w : World) (b : Nat) (f : Int → Option Value) : Prop := ∃ es clock, w.heap[b]? = some (.map es clock) ∧ Reads es clock f

def upd (f : Int → Option Value) (k : Int) (v : Option Value) : Int → Option Value := fun x => if x = k then v else f x

theorem At.lt {w : World} {b : Nat} {f} (h : At w b f) : b < w.heap.size := by
  obtain ⟨es, c, hb, _⟩ := h
  exact (Array.getElem?_eq_some_iff.1 hb).1

theorem At.same {w w' : World} {b : Nat} {f} (h : At w b f) (hk : w'.heap[b]? = w.heap[b]?) : At w' b f := by
  obtain ⟨es, c, hb, r⟩ := h
  exact ⟨es, c, hk.trans hb, r⟩

theorem Reads.empty (c : Nat) : Reads #[] c (fun _ => none) := ⟨by simp, by simp, by simp, by simp, by simp⟩

/-- What a search finds. -/
theorem findNow_some {kd : IntKind} (k : Int) (l : List MapEntry) (hk : ∀ e ∈ l, ∃ x : Int, e.key = .int .i64 x) (j : Nat) :
    (∃ i e, Instr.findNow (.int kd) (.int .i64 k) l j = some (some (j + i, e.val)) ∧ l[i]? = some e ∧ e.key = .int .i64 k) ∨
    (Instr.findNow (.int kd) (.int .i64 k) l j = some none ∧ ∀ e ∈ l, e.key ≠ .int .i64 k) := by
  induction l generalizing j with
  | nil => right; simp [Instr.findNow]
  | cons e l ih =>
    obtain ⟨x, hx⟩ := hk e (by simp)
    by_cases hkx : k = x
    · left
      subst hkx
      exact ⟨0, e, by simp [Instr.findNow, Instr.sameNow, hx], by simp, hx⟩
    · rcases ih (fun e' h' => hk e' (by simp [h'])) (j + 1) with ⟨i, e', h1, h2, h3⟩ | ⟨h1, h2⟩
      · left
        refine ⟨i + 1, e', ?_, by simpa using h2, h3⟩
        have : (k == x) = false := by simpa using hkx
        simp only [Instr.findNow, Instr.sameNow, hx, this]
        simp only [if_true]
        rw [h1]; congr 3; omega
      · right
        have : (k == x) = false := by simpa using hkx
        refine ⟨by simp [Instr.findNow, Instr.sameNow, hx, this, h1], ?_⟩
        intro e' h'
        rcases List.mem_cons.1 h' with rfl | h'
        · rw [hx]; simpa using fun h => hkx h.symm
        · exact h2 e' h'

theorem run_findKey {P : Program} {w : World} {t : TypeId} {kd : IntKind} (hu : P.underlying t = some (.int kd)) (k : Int) (l : List MapEntry) (hk : ∀ e ∈ l, ∃ x : Int, e.key = .int .i64 x) :
    (∃ i e, (Instr.findKey t (.int .i64 k) l).run P w = .ok (some (i, e.val)) w ∧ l[i]? = some e ∧ e.key = .int .i64 k) ∨
    ((Instr.findKey t (.int .i64 k) l).run P w = .ok none w ∧ ∀ e ∈ l, e.key ≠ .int .i64 k) := by
  rcases findNow_some (kd := kd) k l hk 0 with ⟨i, e, h1, h2, h3⟩ | ⟨h1, h2⟩
  · left
    refine ⟨i, e, ?_, h2, h3⟩
    unfold Instr.findKey
    rw [Sem.run_bind, run_underlying hu w]
    simp only [Result.andThen_ok, h1]
    simp
  · right
    refine ⟨?_, h2⟩
    unfold Instr.findKey
    rw [Sem.run_bind, run_underlying hu w]
    simp only [Result.andThen_ok, h1]
    simp

theorem run_checkKey {P : Program} {w : World} {t : TypeId} {kd : IntKind} (hu : P.underlying t = some (.int kd)) (b : Bool) (n : Nat) (k : Int) :
    (Instr.checkKey b (n + 1) t (.int .i64 k)).run P w = .ok () w := by
  unfold Instr.checkKey
  rw [Sem.run_bind, run_underlying hu w]
  rfl

theorem Reads.none_iff {es : Array MapEntry} {clock : Nat} {f} (h : Reads es clock f) (k : Int) : f k = none ↔ ∀ e ∈ es.toList, e.key ≠ .int .i64 k := by
  constructor
  · intro hf e he hk
    have := (h.read k e.val).2 ⟨e, he, hk, rfl⟩
    simp [hf] at this
  · intro hn
    cases hf : f k with
    | none => rfl
    | some v =>
      obtain ⟨e, he, hk, _⟩ := (h.read k v).1 hf
      exact (hn e he hk).elim

/-- 'm[k]': the element, or the zero value. -/
theorem run_lookup {P : Program} {w : World} {t kt et : TypeId} {kd : IntKind} (ht : P.underlying t = some (.map kt et)) (hk : P.underlying kt = some (.int kd))
    {z : Value} (hz : (zeroValue et).run P w = .ok z w) {b : Nat} {f} (h : At w b f) (k : Int) (ok : Bool) :
    (Instr.lookup t (.map (some b)) (.int .i64 k) ok).run P w = .ok (if ok then .tuple #[(f k).getD z, .bool (f k).isSome] else (f k).getD z) w := by
  obtain ⟨es, c, hb, r⟩ := h
  have hg : (getObj b).run P w = .ok (.map es c) w := by simp [getObj, Sem.run, hb]
  unfold Instr.lookup
  rw [Sem.run_bind, run_underlying ht w]
  simp only [Result.andThen_ok, Sem.run_bind, hg, Sem.run_pure, run_checkKey (n := 9999) hk]
  rcases run_findKey (P := P) (w := w) hk k es.toList r.keys with ⟨i, e, h1, h2, h3⟩ | ⟨h1, h2⟩
  · have hf : f k = some e.val := (r.read k e.val).2 ⟨e, List.mem_of_getElem? h2, h3, rfl⟩
    rw [h1]
    simp [hf]
  · have hf : f k = none := (r.none_iff k).2 h2
    rw [h1]
    simp [hf, hz]

def setBlk (w : World) (b : Nat) (o : Obj) : World := { w with heap := w.heap.setIfInBounds b o }

theorem setBlk_same {w : World} {b : Nat} (h : b < w.heap.size) (o : Obj) : (setBlk w b o).heap[b]? = some o := by simp [setBlk, h]
theorem setBlk_other {w : World} {b k : Nat} (h : k ≠ b) (o : Obj) : (setBlk w b o).heap[k]? = w.heap[k]? := by
  simp only [setBlk]; exact Array.getElem?_setIfInBounds_ne (fun e => h e.symm)

theorem setBlk_fr (w : World) (b : Nat) (o : Obj) : Fr (fun i => i = b) w (setBlk w b o) := ⟨rfl, rfl, rfl, by simp [setBlk], fun k _ hk => setBlk_other hk o⟩

theorem nodup_modify {es : Array MapEntry} (i : Nat) (g : MapEntry → MapEntry) {α : Type} (p : MapEntry → α) (hp : ∀ e, es[i]? = some e → p (g e) = p e) : (es.modify i g).toList.map p = es.toList.map p := by
  apply List.ext_getElem?
  intro j
  simp only [List.getElem?_map, Array.getElem?_toList, Array.getElem?_modify]
  by_cases hj : i = j
  · subst hj
    simp only [if_true]
    cases he : es[i]? with
    | none => simp
    | some e => simp [hp e he]
  · simp [hj]

/-- 'm[k] = v'. -/
theorem run_mapUpdate {P : Program} {w : World} {t kt et : TypeId} {kd : IntKind} (ht : P.underlying t = some (.map kt et)) (hk : P.underlying kt = some (.int kd))
    {b : Nat} {f} (h : At w b f) (k : Int) (v : Value) :
    ∃ w', (Instr.mapUpdate t (.map (some b)) (.int .i64 k) v).run P w = .ok () w' ∧ At w' b (upd f k (some v)) ∧ Fr (fun i => i = b) w w' ∧ w'.heap.size = w.heap.size := by
  have hlt := h.lt
  obtain ⟨es, c, hb, r⟩ := h
  have hg : (getObj b).run P w = .ok (.map es c) w := by simp [getObj, Sem.run, hb]
  have hs : ∀ o, (setObj b o).run P w = .ok () (setBlk w b o) := fun o => by simp [setObj, Sem.run, hb, setBlk]
  unfold Instr.mapUpdate
  rw [Sem.run_bind, run_underlying ht w]
  simp only [Result.andThen_ok, Sem.run_bind, hg, run_checkKey (n := 9999) hk]
  rcases run_findKey (P := P) (w := w) hk k es.toList r.keys with ⟨i, e, h1, h2, h3⟩ | ⟨h1, h2⟩
  · rw [h1]
    have hi : es[i]? = some e := by simpa using h2
    have hst : (Instr.keyThatStays (((es[i]?).map (·.key)).getD (.int .i64 k)) (.int .i64 k)).run P w = .ok (.int .i64 k) w := by
      simp [hi, h3, Instr.keyThatStays, Instr.sameBits]
    simp only [Result.andThen_ok, hst, Sem.run_bind, hs]
    refine ⟨_, rfl, ⟨_, _, setBlk_same hlt _, ?_⟩, setBlk_fr _ _ _, by simp [setBlk]⟩
    have hmem : ∀ e', e' ∈ (es.modify i fun e => { e with key := .int .i64 k, val := v }).toList ↔ (∃ j, j ≠ i ∧ es[j]? = some e') ∨ e' = { e with key := .int .i64 k, val := v } := by
      intro e'
      simp only [Array.mem_toList_iff]
      rw [Array.mem_iff_getElem?]
      constructor
      · rintro ⟨j, hj⟩
        rw [Array.getElem?_modify] at hj
        by_cases hij : i = j
        · subst hij; simp [hi] at hj; right; exact hj.symm
        · simp [hij] at hj; left; exact ⟨j, fun h => hij h.symm, hj⟩
      · rintro (⟨j, hj, he⟩ | rfl)
        · exact ⟨j, by rw [Array.getElem?_modify, if_neg (fun h => hj h.symm)]; exact he⟩
        · exact ⟨i, by rw [Array.getElem?_modify]; simp [hi]⟩
    have hkeyNe : ∀ j e', j ≠ i → es[j]? = some e' → e'.key ≠ .int .i64 k := by
      intro j e' hj he' hke
      have hjl : j < es.size := (Array.getElem?_eq_some_iff.1 he').1
      exact hj ((List.getElem?_inj (l := es.toList.map (·.key)) (i := j) (j := i) (by simpa using hjl) r.nodupK).1 (by simp [he', hi, hke, h3]))
    constructor
    · intro e' he'
      rcases (hmem e').1 he' with ⟨j, hj, he⟩ | rfl
      · exact r.keys e' (by simpa using Array.mem_of_getElem? he)
      · exact ⟨k, rfl⟩
    · intro k' v'
      unfold upd
      by_cases hkk : k' = k
      · subst hkk
        simp only [if_true, Option.some.injEq]
        constructor
        · rintro rfl; exact ⟨_, (hmem _).2 (.inr rfl), rfl, rfl⟩
        · rintro ⟨e', he', hke, hv⟩
          rcases (hmem e').1 he' with ⟨j, hj, he⟩ | rfl
          · exact (hkeyNe j e' hj he hke).elim
          · exact hv
      · simp only [hkk, if_false]
        rw [r.read]
        constructor
        · rintro ⟨e', he', hke, hv⟩
          obtain ⟨j, hj⟩ := Array.mem_iff_getElem?.1 (Array.mem_toList_iff.1 he')
          refine ⟨e', (hmem e').2 (.inl ⟨j, ?_, hj⟩), hke, hv⟩
          rintro rfl
          rw [hi] at hj; cases hj
          rw [h3] at hke; injection hke with _ hke; exact hkk hke.symm
        · rintro ⟨e', he', hke, hv⟩
          rcases (hmem e').1 he' with ⟨j, hj, he⟩ | rfl
          · exact ⟨e', by simpa using Array.mem_of_getElem? he, hke, hv⟩
          · injection hke with _ hke; exact (hkk hke.symm).elim
    · intro e' he'
      rcases (hmem e').1 he' with ⟨j, hj, he⟩ | rfl
      · exact r.born e' (by simpa using Array.mem_of_getElem? he)
      · exact r.born e (List.mem_of_getElem? h2)
    · rw [nodup_modify]
      · exact r.nodupK
      · intro e' he'; rw [hi] at he'; cases he'; exact h3.symm
    · rw [nodup_modify]
      · exact r.nodupB
      · intro e' he'; rfl
  · rw [h1]
    simp only [Result.andThen_ok, hs]
    refine ⟨_, rfl, ⟨_, _, setBlk_same hlt _, ?_⟩, setBlk_fr _ _ _, by simp [setBlk]⟩
    constructor
    · intro e' he'
      simp only [Array.toList_push, List.mem_append, List.mem_singleton] at he'
      rcases he' with he' | rfl
      · exact r.keys e' he'
      · exact ⟨k, rfl⟩
    · intro k' v'
      simp only [Array.toList_push, List.mem_append, List.mem_singleton]
      unfold upd
      by_cases hkk : k' = k
      · subst hkk
        simp only [if_true, Option.some.injEq]
        constructor
        · rintro rfl; exact ⟨_, .inr rfl, rfl, rfl⟩
        · rintro ⟨e', he' | rfl, hke, hv⟩
          · exact (h2 e' he' hke).elim
          · exact hv
      · simp only [hkk, if_false]
        rw [r.read]
        constructor
        · rintro ⟨e', he', hke, hv⟩; exact ⟨e', .inl he', hke, hv⟩
        · rintro ⟨e', he' | rfl, hke, hv⟩
          · exact ⟨e', he', hke, hv⟩
          · injection hke with _ hke; exact (hkk hke.symm).elim
    · intro e' he'
      simp only [Array.toList_push, List.mem_append, List.mem_singleton] at he'
      rcases he' with he' | rfl
      · exact Nat.lt_succ_of_lt (r.born e' he')
      · exact Nat.lt_succ_self _
    · simp only [Array.toList_push, List.map_append, List.map_cons, List.map_nil]
      rw [List.nodup_append]
      refine ⟨r.nodupK, by simp, ?_⟩
      intro a ha b hb' hab
      simp only [List.mem_singleton] at hb'
      subst hb' hab
      obtain ⟨e', he', hke⟩ := List.mem_map.1 ha
      exact h2 e' he' hke
    · simp only [Array.toList_push, List.map_append, List.map_cons, List.map_nil]
      rw [List.nodup_append]
      refine ⟨r.nodupB, by simp, ?_⟩
      intro a ha b hb' hab
      simp only [List.mem_singleton] at hb'
      subst hb' hab
      obtain ⟨e', he', hke⟩ := List.mem_map.1 ha
      have := r.born e' he'
      omega

/-- 'delete(m, k)'. -/
theorem run_delete {P : Program} {w : World} {t kt et : TypeId} {kd : IntKind} (ht : P.underlying t = some (.map kt et)) (hk : P.underlying kt = some (.int kd)) (x : TypeId) (y : TypeId)
    {b : Nat} {f} (h : At w b f) (k : Int) :
    ∃ w', (Builtin.delete_ #[t, x] y #[.map (some b), .int .i64 k]).run P w = .ok (.tuple #[]) w' ∧ At w' b (upd f k none) ∧ Fr (fun i => i = b) w w' ∧ w'.heap.size = w.heap.size := by
  have hlt := h.lt
  obtain ⟨es, c, hb, r⟩ := h
  have hg : (getObj b).run P w = .ok (.map es c) w := by simp [getObj, Sem.run, hb]
  have hs : ∀ o, (setObj b o).run P w = .ok () (setBlk w b o) := fun o => by simp [setObj, Sem.run, hb, setBlk]
  unfold Builtin.delete_
  simp only [List.getElem?_toArray, List.getElem?_cons_zero, List.getElem?_cons_succ]
  rw [Sem.run_bind, run_underlying ht w]
  simp only [Result.andThen_ok, Sem.run_bind, hg, run_checkKey (n := 9999) hk]
  rcases run_findKey (P := P) (w := w) hk k es.toList r.keys with ⟨i, e, h1, h2, h3⟩ | ⟨h1, h2⟩
  · rw [h1]
    have hi : es[i]? = some e := by simpa using h2
    have hil : i < es.size := (Array.getElem?_eq_some_iff.1 hi).1
    simp only [Result.andThen_ok, Sem.run_bind, hs, Sem.run_pure]
    refine ⟨_, rfl, ⟨_, _, setBlk_same hlt _, ?_⟩, setBlk_fr _ _ _, by simp [setBlk]⟩
    have hl : (es.eraseIdxIfInBounds i).toList = es.toList.eraseIdx i := by
      simp [Array.eraseIdxIfInBounds, hil]
    have hsub : (es.eraseIdxIfInBounds i).toList.Sublist es.toList := by rw [hl]; exact List.eraseIdx_sublist _ _
    have hmem : ∀ e', e' ∈ (es.eraseIdxIfInBounds i).toList ↔ e' ∈ es.toList ∧ e'.key ≠ .int .i64 k := by
      intro e'
      rw [hl]
      constructor
      · intro he'
        refine ⟨List.mem_of_mem_eraseIdx he', fun hke => ?_⟩
        obtain ⟨j, hji, hj⟩ := List.mem_eraseIdx_iff_getElem?.1 he'
        have hjl : j < es.size := by simpa using (List.getElem?_eq_some_iff.1 hj).1
        exact hji ((List.getElem?_inj (l := es.toList.map (·.key)) (i := j) (j := i) (by simpa using hjl) r.nodupK).1 (by rw [List.getElem?_map, List.getElem?_map, hj, h2]; simp [hke, h3]))
      · rintro ⟨he', hke⟩
        obtain ⟨j, hj⟩ := List.mem_iff_getElem?.1 he'
        refine List.mem_eraseIdx_iff_getElem?.2 ⟨j, ?_, hj⟩
        rintro rfl
        rw [h2] at hj; cases hj; exact hke h3
    constructor
    · intro e' he'; exact r.keys e' ((hmem e').1 he').1
    · intro k' v'
      unfold upd
      by_cases hkk : k' = k
      · subst hkk
        simp only [if_true]
        constructor
        · intro h; cases h
        · rintro ⟨e', he', hke, hv⟩; exact (((hmem e').1 he').2 hke).elim
      · simp only [hkk, if_false]
        rw [r.read]
        constructor
        · rintro ⟨e', he', hke, hv⟩
          exact ⟨e', (hmem e').2 ⟨he', fun h => by rw [hke] at h; injection h with _ h; exact hkk h⟩, hke, hv⟩
        · rintro ⟨e', he', hke, hv⟩
          exact ⟨e', ((hmem e').1 he').1, hke, hv⟩
    · intro e' he'; exact r.born e' ((hmem e').1 he').1
    · exact r.nodupK.sublist (hsub.map _)
    · exact r.nodupB.sublist (hsub.map _)
  · rw [h1]
    simp only [Result.andThen_ok, Sem.run_bind, hs, Sem.run_pure]
    refine ⟨_, rfl, ⟨_, _, setBlk_same hlt _, ?_⟩, setBlk_fr _ _ _, by simp [setBlk]⟩
    have hf : upd f k none = f := by
      funext x
      unfold upd
      by_cases hx : x = k
      · subst hx; simp [(r.none_iff x).2 h2]
      · simp [hx]
    rw [hf]
    exact r

/-- 'clear(m)'. -/
theorem run_clear {P : Program} {w : World} {t kt et : TypeId} (ht : P.underlying t = some (.map kt et)) (y : TypeId)
    {b : Nat} {f} (h : At w b f) :
    ∃ w', (Builtin.clear_ #[t] y #[.map (some b)]).run P w = .ok (.tuple #[]) w' ∧ At w' b (fun _ => none) ∧ Fr (fun i => i = b) w w' ∧ w'.heap.size = w.heap.size := by
  have hlt := h.lt
  obtain ⟨es, c, hb, r⟩ := h
  have hg : (getObj b).run P w = .ok (.map es c) w := by simp [getObj, Sem.run, hb]
  have hs : ∀ o, (setObj b o).run P w = .ok () (setBlk w b o) := fun o => by simp [setObj, Sem.run, hb, setBlk]
  unfold Builtin.clear_
  simp only [List.getElem?_toArray, List.getElem?_cons_zero]
  rw [Sem.run_bind, run_underlying ht w]
  simp only [Result.andThen_ok, Sem.run_bind, hg, hs, Sem.run_pure]
  exact ⟨_, rfl, ⟨_, _, setBlk_same hlt _, Reads.empty c⟩, setBlk_fr _ _ _, by simp [setBlk]⟩

/-- Block r of w is the iterator of a range over the map in block b, which reads as f and has not turned since; the keys in ks have come. -/
def Iter (w : World) (r b : Nat) (f : Int → Option Value) (ks : List Int) : Prop :=
  ∃ es clock seen, w.heap[b]? = some (.map es clock) ∧ Reads es clock f ∧ w.heap[r]? = some (.mapIter (some b) clock seen clock) ∧
    (∀ e ∈ es.toList, seen.contains e.born = true ↔ ∃ k ∈ ks, e.key = .int .i64 k)
/-- .. and the last step came to the key k, which holds v. -/
def IterAt (w : World) (r b : Nat) (f : Int → Option Value) (ks : List Int) (k : Int) (v : Value) : Prop :=
  ∃ es clock seen, w.heap[b]? = some (.map es clock) ∧ Reads es clock f ∧ w.heap[r]? = some (.mapIter (some b) clock seen clock) ∧
    (∀ e ∈ es.toList, seen.contains e.born = true ↔ ∃ k ∈ ks, e.key = .int .i64 k) ∧ ∃ e ∈ es.toList, seen.back? = some e.born ∧ e.key = .int .i64 k ∧ e.val = v

theorem IterAt.iter {w : World} {r b : Nat} {f ks k v} (h : IterAt w r b f ks k v) : Iter w r b f ks := by
  obtain ⟨es, c, seen, h1, h2, h3, h4, _⟩ := h
  exact ⟨es, c, seen, h1, h2, h3, h4⟩
theorem Iter.at {w : World} {r b : Nat} {f ks} (h : Iter w r b f ks) : At w b f := by
  obtain ⟨es, c, seen, h1, h2, h3, h4⟩ := h
  exact ⟨es, c, h1, h2⟩
theorem Iter.lt {w : World} {r b : Nat} {f ks} (h : Iter w r b f ks) : r < w.heap.size := by
  obtain ⟨es, c, seen, h1, h2, h3, h4⟩ := h
  exact (Array.getElem?_eq_some_iff.1 h3).1
theorem Iter.same {w w' : World} {r b : Nat} {f ks} (h : Iter w r b f ks) (hb : w'.heap[b]? = w.heap[b]?) (hr : w'.heap[r]? = w.heap[r]?) : Iter w' r b f ks := by
  obtain ⟨es, c, seen, h1, h2, h3, h4⟩ := h
  exact ⟨es, c, seen, hb.trans h1, h2, hr.trans h3, h4⟩

theorem run_range {P : Program} {w : World} {t kt et : TypeId} (ht : P.underlying t = some (.map kt et)) {b : Nat} {f} (h : At w b f) :
    ∃ w', (Instr.range t (.map (some b))).run P w = .ok (.pointer (some ⟨w.heap.size, 0, none⟩)) w' ∧ Iter w' w.heap.size b f [] ∧ Fr (fun _ => False) w w' ∧ w'.heap.size = w.heap.size + 1 := by
  have hlt := h.lt
  obtain ⟨es, c, hb, r⟩ := h
  have hg : (getObj b).run P w = .ok (.map es c) w := by simp [getObj, Sem.run, hb]
  unfold Instr.range
  rw [Sem.run_bind, run_underlying ht w]
  simp only [Result.andThen_ok, Sem.run_bind, hg, Sem.run_pure, run_newObj]
  refine ⟨_, rfl, ⟨es, c, #[], ?_, r, ?_, by simp⟩, ?_, ?_⟩
  · rw [World.alloc_eq, RowKit.Below.heap_alloc _ _ _ hlt]; exact hb
  · rw [World.alloc_eq]; exact heap_alloc_new _ _
  · rw [World.alloc_eq]; exact (Fr.refl _ _).alloc _
  · simp

/-- One step of the range: it is over, all keys having come; or a further key comes. -/
theorem run_next {P : Program} {w : World} {r b : Nat} {f ks} (h : Iter w r b f ks) (ty : TypeId) :
    (∃ w', (Instr.next (.pointer (some ⟨r, 0, none⟩)) false ty).run P w = .ok (.tuple #[.bool false]) w' ∧ (∀ k, (f k).isSome = true → k ∈ ks) ∧ Fr (fun _ => False) w w' ∧ w'.heap = w.heap) ∨
    (∃ w' k v, (Instr.next (.pointer (some ⟨r, 0, none⟩)) false ty).run P w = .ok (.tuple #[.bool true, .int .i64 k, v]) w' ∧ f k = some v ∧ k ∉ ks ∧ IterAt w' r b f (ks ++ [k]) k v ∧ Fr (fun i => i = r) w w' ∧ w'.heap.size = w.heap.size) := by
  have hlt := h.lt
  obtain ⟨es, c, seen, hb, rd, hr, hs⟩ := h
  have hgr : ∀ {w : World}, w.heap[r]? = some (.mapIter (some b) c seen c) → (getObj r).run P w = .ok (.mapIter (some b) c seen c) w := fun {w} hr => by simp [getObj, Sem.run, hr]
  have hgb : (getObj b).run P w = .ok (.map es c) w := by simp [getObj, Sem.run, hb]
  have hset : ∀ (w' : World), w'.heap = w.heap → ∀ o, (setObj r o).run P w' = .ok () (setBlk w' r o) := fun w' hw' o => by simp [setObj, Sem.run, hw', hr, setBlk]
  have hnew : (es.filter fun e => !seen.contains e.born).filter (fun e => decide (e.born ≥ c)) = #[] := by
    rw [Array.filter_eq_empty_iff]
    intro e he
    have := rd.born e (by simpa using (Array.mem_filter.1 he).1)
    simp; omega
  have hold : (es.filter fun e => !seen.contains e.born).filter (fun e => decide (e.born < c)) = es.filter fun e => !seen.contains e.born := by
    rw [Array.filter_eq_self]
    intro e he
    have := rd.born e (by simpa using (Array.mem_filter.1 he).1)
    simpa using this
  have hall : (!seen.isEmpty && !es.isEmpty && es.all fun e => decide (e.born ≥ c)) = false := by
    cases hE : es.isEmpty with
    | true => simp
    | false =>
      have hex : ∃ e, e ∈ es := by
        have h0 : 0 < es.size := by
          rcases Nat.eq_zero_or_pos es.size with h0 | h0
          · simp [Array.isEmpty, h0] at hE
          · exact h0
        exact ⟨es[0], Array.getElem_mem h0⟩
      obtain ⟨e, he⟩ := hex
      have hf : (es.all fun e => decide (e.born ≥ c)) = false := by
        rw [Array.all_eq_false']
        exact ⟨e, he, by have := rd.born e (by simpa using he); simp; omega⟩
      rw [hf]; simp
  have hch : ∀ m, 0 < m → ∃ i w1, (choose (.mapNext m)).run P w = .ok i w1 ∧ i < m ∧ w1.heap = w.heap ∧ Fr (fun _ => False) w w1 := by
    intro m hm
    rw [run_choose]
    by_cases hf : (Question.mapNext m).forced = true
    · rw [if_pos hf]
      exact ⟨0, w, rfl, hm, rfl, Fr.refl _ _⟩
    · rw [if_neg hf]
      exact ⟨_, _, rfl, Nat.mod_lt _ hm, rfl, (Fr.refl _ _).drew⟩
  by_cases hL : (es.filter fun e => !seen.contains e.born) = #[]
  · left
    obtain ⟨i, w1, h1, h2, h3, h4⟩ := hch 1 (by omega)
    have hi : i = 0 := by omega
    subst hi
    refine ⟨w1, ?_, ?_, h4, h3⟩
    · unfold Instr.next
      simp only [Sem.run_bind, hgr hr, Result.andThen_ok, hgb, hall, hL]
      simp [h1, -run_choose, -run_choose_drew]
    · intro k hk
      obtain ⟨v, hv⟩ := Option.isSome_iff_exists.1 hk
      obtain ⟨e, he, hke, _⟩ := (rd.read k v).1 hv
      have hsn : seen.contains e.born = true := by
        rw [Array.filter_eq_empty_iff] at hL
        simpa using hL e (by simpa using he)
      obtain ⟨k', hk', hke'⟩ := (hs e he).1 hsn
      rw [hke] at hke'; injection hke' with _ hkk; subst hkk; exact hk'
  · right
    have hm : 0 < (es.filter fun e => !seen.contains e.born).size := by
      rcases Nat.eq_zero_or_pos (es.filter fun e => !seen.contains e.born).size with h0 | h0
      · exact (hL (Array.eq_empty_of_size_eq_zero h0)).elim
      · exact h0
    obtain ⟨i, w1, h1, h2, h3, h4⟩ := hch _ hm
    generalize hleft : (es.filter fun e => !seen.contains e.born) = left at *
    have hel : left[i] ∈ left := Array.getElem_mem h2
    generalize he : left[i] = e at *
    have hee : left[i]? = some e := by rw [← he]; exact Array.getElem?_eq_getElem h2
    have hmem : e ∈ es ∧ seen.contains e.born = false := by
      rw [← hleft] at hel
      have := Array.mem_filter.1 hel
      exact ⟨this.1, by simpa using this.2⟩
    have hmem' : e ∈ es.toList := by simpa using hmem.1
    obtain ⟨k, hk⟩ := rd.keys e hmem'
    have hkn : k ∉ ks := fun hkm => by
      have := (hs e hmem').2 ⟨k, hkm, hk⟩
      rw [hmem.2] at this; cases this
    have hr1 : w1.heap[r]? = some (.mapIter (some b) c seen c) := by rw [h3]; exact hr
    have hbr : b ≠ r := by rintro rfl; rw [hb] at hr; cases hr
    have hLe : left.isEmpty = false := by simpa [Array.isEmpty_iff] using hL
    refine ⟨setBlk w1 r (.mapIter (some b) c (seen.push e.born) c), k, e.val, ?_, (rd.read k e.val).2 ⟨e, hmem', hk, rfl⟩, hkn, ⟨es, c, seen.push e.born, ?_, rd, ?_, ?_, e, hmem', by simp, hk, rfl⟩, ?_, by simp [setBlk, h3]⟩
    · unfold Instr.next
      simp only [Sem.run_bind, hgr hr, Result.andThen_ok, hgb, hall, hleft, hnew, hold, hLe]
      simp [h1, hee, hset w1 h3, hk, -run_choose, -run_choose_drew]
    · rw [setBlk_other hbr, h3]; exact hb
    · exact setBlk_same (by rw [h3]; exact hlt) _
    · intro e' he'
      rw [Array.contains_push, Bool.or_eq_true, hs e' he']
      constructor
      · rintro (⟨x, hx, hxe⟩ | hbo)
        · exact ⟨x, by simp [hx], hxe⟩
        · have hbe : e'.born = e.born := by simpa using hbo
          refine ⟨k, by simp, ?_⟩
          have : e' = e := by
            obtain ⟨j, hj⟩ := List.mem_iff_getElem?.1 he'
            obtain ⟨j2, hj2⟩ := List.mem_iff_getElem?.1 hmem'
            have hjl : j < es.size := by simpa using (List.getElem?_eq_some_iff.1 hj).1
            have hjj : j = j2 := (List.getElem?_inj (l := es.toList.map (·.born)) (i := j) (j := j2) (by simpa using hjl) rd.nodupB).1 (by rw [List.getElem?_map, List.getElem?_map, hj, hj2]; simp [hbe])
            subst hjj; rw [hj] at hj2; exact Option.some.inj hj2
          rw [this]; exact hk
      · rintro ⟨x, hx, hxe⟩
        rcases List.mem_append.1 hx with hx | hx
        · exact .inl ⟨x, hx, hxe⟩
        · right
          have hxk : x = k := by simpa using hx
          subst hxk
          have hf1 := (rd.read x e'.val).2 ⟨e', he', hxe, rfl⟩
          obtain ⟨j, hj⟩ := List.mem_iff_getElem?.1 he'
          obtain ⟨j2, hj2⟩ := List.mem_iff_getElem?.1 hmem'
          have hjl : j < es.size := by simpa using (List.getElem?_eq_some_iff.1 hj).1
          have hjj : j = j2 := (List.getElem?_inj (l := es.toList.map (·.key)) (i := j) (j := j2) (by simpa using hjl) rd.nodupK).1 (by rw [List.getElem?_map, List.getElem?_map, hj, hj2]; simp [hxe, hk])
          subst hjj; rw [hj] at hj2; cases hj2; simp
    · exact h4.trans' (setBlk_fr _ _ _) (fun _ _ h => h.elim) (fun _ _ h => h)

/-- What the entry of the last step is. -/
theorem run_entry {P : Program} {w : World} {r b : Nat} {f ks k v} (h : IterAt w r b f ks k v) :
    (Instr.entry (.pointer (some ⟨r, 0, none⟩))).run P w = .ok (.tuple #[.int .i64 k, v]) w := by
  obtain ⟨es, c, seen, hb, rd, hr, hs, e, he, hbk, hke, hv⟩ := h
  have hgr : (getObj r).run P w = .ok (.mapIter (some b) c seen c) w := by simp [getObj, Sem.run, hr]
  have hgb : (getObj b).run P w = .ok (.map es c) w := by simp [getObj, Sem.run, hb]
  have hfind : es.find? (fun x => x.born == e.born) = some e := by
    rw [← Array.find?_toList]
    have hnd := rd.nodupB
    generalize es.toList = l at he hnd
    induction l with
    | nil => cases he
    | cons x l ih =>
      simp only [List.map_cons, List.nodup_cons] at hnd
      rcases List.mem_cons.1 he with rfl | he
      · simp
      · have hne : (x.born == e.born) = false := by
          have : x.born ≠ e.born := fun h => hnd.1 (by rw [h]; exact List.mem_map_of_mem he)
          simpa using this
        rw [List.find?_cons, hne]
        exact ih he hnd.2
  unfold Instr.entry
  simp only [Sem.run_bind, hgr, Result.andThen_ok, hbk, hgb]
  simp [hfind, hke, hv]

end Go.Im
