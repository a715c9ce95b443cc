/- Scripts that come in as arguments: a slice of operations and a slice of integers, read out of memory. -/
import Derived.Test.YtmbkmfpnjpkakaaR0
import Derived.Test.YtmbkmfpnjpkakaaL4
import Derived.ChangeArms
import Derived.ChangeSlices
namespace Go.Proofs.Ytmbkmfpnjpkakaa
open Go.ChangeShapes Go.WideShapes Go.ChangeAt Go.RowKit Go.Im Go.Dsk0

/-- One operation in memory. -/
structure OpAt (w : World) (b p : Nat) (o : DOp) (pv : Value) (ok : Nat → Prop) : Prop where
  c0 : w.cell? ⟨b, p, none⟩ = some (.int .i64 o.kind)
  c1 : w.cell? ⟨b, p + 1, none⟩ = some (.int .i64 o.i)
  c2 : w.cell? ⟨b, p + 2, none⟩ = some (.int .i64 o.j)
  c3 : w.cell? ⟨b, p + 3, none⟩ = some (B o.fill)
  c4 : w.cell? ⟨b, p + 4, none⟩ = some (.int .i64 o.size)
  c5 : w.cell? ⟨b, p + 5, none⟩ = some pv
  picks : IntsAt w pv o.picks ok

/-- A script in memory. -/
def OpsAt (w : World) (v : Value) (l : List DOp) (ok : Nat → Prop) : Prop :=
  ∃ a c, v = .slice a l.length c ∧ l.length ≤ 9223372036854775807 ∧ (l = [] ∨ ∃ b p, a = some ⟨b, p, none⟩ ∧ b < w.heap.size ∧ ok b ∧ ∀ (j : Nat) (o : DOp), l[j]? = some o → ∃ pv, OpAt w b (p + j * 6) o pv ok)

theorem OpAt.fr {w w' : World} {b p : Nat} {o : DOp} {pv : Value} {ok : Nat → Prop} (h : OpAt w b p o pv ok) {S : Nat → Prop} (f : Fr S w w') (hS : ∀ b, b < w.heap.size → ok b → ¬ S b) (hb : b < w.heap.size) (hk : ok b) : OpAt w' b p o pv ok :=
  ⟨(f.cb hb (hS b hb hk)).trans h.c0, (f.cb hb (hS b hb hk)).trans h.c1, (f.cb hb (hS b hb hk)).trans h.c2, (f.cb hb (hS b hb hk)).trans h.c3, (f.cb hb (hS b hb hk)).trans h.c4, (f.cb hb (hS b hb hk)).trans h.c5, h.picks.fr f hS⟩

theorem lit_of_cell {w : World} {a : Addr} {v : Value} (h : w.cell? a = some v) : a.spot = none := by
  unfold World.cell? at h
  split at h
  · split at h
    · cases h
    · rename_i hs
      cases ha : a.spot with
      | none => rfl
      | some x => rw [ha] at hs; exact absurd rfl hs
  · cases h
theorem add_lit (b o j : Nat) : (⟨b, o, none⟩ : Addr).add j = ⟨b, o + j, none⟩ := by
  unfold Addr.add
  split
  · rename_i h; subst h; rfl
  · rfl

/-- A struct type's fields: their types and offsets. -/
def fieldsOf (P : Program) (t : TypeId) : Option (List (Nat × Nat)) := match P.underlying t with
  | some (.struct fs) => some (fs.toList.map fun f => (f.type, f.offset))
  | _ => none
/-- The types of a script. -/
structure OpTypes (P : Program) : Prop where
  u3 : P.underlying 3 = some (.int .i64)
  u5 : P.underlying 5 = some (.int .u8)
  u46 : P.underlying 46 = some (.slice 3)
  u39 : P.underlying 39 = some (.slice 48)
  c3 : P.cellsOf 3 = 1
  c5 : P.cellsOf 5 = 1
  c46 : P.cellsOf 46 = 1
  c48 : P.cellsOf 48 = 6
  f48 : fieldsOf P 48 = some [(3, 0), (3, 1), (3, 2), (5, 3), (3, 4), (46, 5)]

section
variable {H : Type} {enc : TypeId × Value → H} {w : World} {P : Program}

theorem ints_of_cells (T : OpTypes P) {v : Value} {fuel : Nat} {x : DataW H × List MemPlace} (hf : DataW.trod enc P w 0 (fun _ => true) true fuel 46 [v] = some x) : ∃ zs, IntsAt w v zs (fun b => b < w.heap.size) := by
  rcases open_ints T.u46 T.u3 T.c3 hf with ⟨hcs, _⟩ | ⟨a, len, cap, zs, hcs, _, hl, hm, hz, _, hcell, _⟩
  · injection hcs with hcs _
    exact ⟨[], none, 0, hcs, by simp, .inl rfl⟩
  · injection hcs with hcs _
    simp only [if_true] at hz
    have hlen : (zs.take len).length = len := by rw [List.length_take]; omega
    refine ⟨zs.take len, some a, cap, by rw [hlen]; exact hcs, by rw [hlen]; unfold maxLen at hm; omega, ?_⟩
    by_cases h0 : len = 0
    · left; subst h0; simp
    · right
      have hs := lit_of_cell (a := a) (hcell 0 (by omega))
      have hb : a.block < w.heap.size := World.block_lt_of_cell? w _ (hcell 0 (by omega))
      obtain ⟨b, o, s⟩ := a
      cases hs
      refine ⟨b, o, rfl, hb, hb, fun j y hy => ?_⟩
      rw [List.getElem?_take] at hy
      split at hy
      · have hj : j < zs.length := (List.getElem?_eq_some_iff.1 hy).1
        have := hcell j hj
        rw [List.getD_eq_getElem?_getD, hy, add_lit] at this
        exact this
      · cases hy

theorem cells_get {a : Addr} {n : Nat} {cs : List Value} (h : w.cells? 0 a n = some cs) : cs.length = n ∧ ∀ i, i < n → w.cell? (a.add i) = cs[i]? := by
  unfold World.cells? at h
  rw [if_pos (Nat.zero_le _)] at h
  refine ⟨by simpa using mapM_some_length h, fun i hi => ?_⟩
  have := mapM_some_get h i i (by simp [hi])
  exact this

theorem field_trod {base : Nat} {spare : Nat → Bool} {held : Bool} {fuel : Nat} {t : TypeId} {cs : List Value} {x : DataW H × List MemPlace} {l : List (Nat × Nat)} (hF : fieldsOf P t = some l) (h : DataW.trod enc P w base spare held fuel t cs = some x) :
    cs.length = P.cellsOf t ∧ ∃ n, ∀ (j ty off : Nat), l[j]? = some (ty, off) → ∃ y, DataW.trod enc P w base spare held n ty ((cs.drop off).take (P.cellsOf ty)) = some y := by
  unfold fieldsOf at hF
  split at hF
  · rename_i fs hu
    injection hF with hF
    subst hF
    obtain ⟨xs, n, _, _, hl, hx, hf⟩ := DataW.trod_struct hu h
    refine ⟨hl, n, fun j ty off hj => ?_⟩
    rw [List.getElem?_map] at hj
    cases hq : fs[j]? with
    | none => simp [hq] at hj
    | some f =>
      have : fs.toList[j]? = some f := by simpa using hq
      rw [this] at hj
      injection hj with hj
      injection hj with h1 h2
      subst h1; subst h2
      have hjl : j < xs.length := by rw [hx]; exact (Array.getElem?_eq_some_iff.1 hq).1
      exact ⟨xs[j], (hf j f hq).trans (List.getElem?_eq_getElem hjl)⟩
  · cases hF

theorem u8_B {n : Int} (h : (Lit.int .u8 n).wf = true) : ∃ x : UInt8, Value.int .u8 n = B x := by
  obtain ⟨h1, h2⟩ := bounds_u8 h
  refine ⟨UInt8.ofNat n.toNat, ?_⟩
  unfold B
  congr 1
  simp
  omega

/-- One operation, out of its six cells. -/
theorem op_of_trod (T : OpTypes P) {b p fuel : Nat} {cs : List Value} {x : DataW H × List MemPlace} (hc : w.cells? 0 ⟨b, p, none⟩ 6 = some cs) (h : DataW.trod enc P w 0 (fun _ => true) true fuel 48 cs = some x) : ∃ o pv, OpAt w b p o pv (fun b => b < w.heap.size) := by
  obtain ⟨hl, n, hf⟩ := field_trod T.f48 h
  obtain ⟨-, hg⟩ := cells_get hc
  rw [T.c48] at hl
  match cs, hl with
  | [v0, v1, v2, v3, v4, v5], _ =>
    obtain ⟨y0, h0⟩ := hf 0 3 0 rfl
    obtain ⟨y1, h1⟩ := hf 1 3 1 rfl
    obtain ⟨y2, h2⟩ := hf 2 3 2 rfl
    obtain ⟨y3, h3⟩ := hf 3 5 3 rfl
    obtain ⟨y4, h4⟩ := hf 4 3 4 rfl
    obtain ⟨y5, h5⟩ := hf 5 46 5 rfl
    rw [T.c3] at h0 h1 h2 h4
    rw [T.c5] at h3
    rw [T.c46] at h5
    obtain ⟨n0, e0, _, _⟩ := DataW.trod_int T.u3 h0
    obtain ⟨n1, e1, _, _⟩ := DataW.trod_int T.u3 h1
    obtain ⟨n2, e2, _, _⟩ := DataW.trod_int T.u3 h2
    obtain ⟨n3, e3, _, w3⟩ := DataW.trod_int T.u5 h3
    obtain ⟨n4, e4, _, _⟩ := DataW.trod_int T.u3 h4
    obtain ⟨f, ef⟩ := u8_B w3
    obtain ⟨zs, hz⟩ := ints_of_cells T (v := v5) h5
    simp at e0 e1 e2 e3 e4
    subst e0; subst e1; subst e2; subst e3; subst e4
    have g (i : Nat) (hi : i < 6) := hg i hi
    simp only [add_lit] at g
    exact ⟨⟨n0, n1, n2, f, n4, zs⟩, v5, g 0 (by omega), g 1 (by omega), g 2 (by omega), (g 3 (by omega)).trans (congrArg some ef), g 4 (by omega), g 5 (by omega), hz⟩

/-- A script, out of an argument. -/
theorem ops_of_cells (T : OpTypes P) {v : Value} {fuel : Nat} {x : DataW H × List MemPlace} (hf : DataW.trod enc P w 0 (fun _ => true) true fuel 39 [v] = some x) : ∃ l, OpsAt w v l (fun b => b < w.heap.size) := by
  rcases DataW.trod_slice T.u39 hf with ⟨hcs, _⟩ | ⟨a, len, cap, elems, rest, n, _, hcs, _, _, hl, hm, hlen, hel, _, _⟩
  · injection hcs with hcs _
    exact ⟨[], none, 0, hcs, by simp, .inl rfl⟩
  · injection hcs with hcs _
    have each : ∀ i, ∃ o : DOp, i < len → a.spot = none ∧ a.block < w.heap.size ∧ ∃ pv, OpAt w a.block (a.off + i * 6) o pv (fun b => b < w.heap.size) := by
      intro i
      by_cases hi : i < len
      · have h1 := hel i hi
        rw [List.getElem?_eq_getElem (by omega), T.c48] at h1
        obtain ⟨cs, hc, ht⟩ := Option.bind_eq_some_iff.1 h1
        have h2 := hel 0 (by omega)
        rw [List.getElem?_eq_getElem (by omega), T.c48] at h2
        obtain ⟨cs0, hc0, ht0⟩ := Option.bind_eq_some_iff.1 h2
        have hs0 := (cells_get hc0).2 0 (by omega)
        have hsome : ∃ v0, w.cell? a = some v0 := by
          have hl0 := (cells_get hc0).1
          refine ⟨cs0[0], ?_⟩
          have : (a.add (0 * 6)).add 0 = a := by simp [Addr.add]
          rw [this] at hs0
          rw [hs0, List.getElem?_eq_getElem (by omega)]
        obtain ⟨v0, hv0⟩ := hsome
        have hsp := lit_of_cell hv0
        obtain ⟨b, o, s⟩ := a
        cases hsp
        rw [add_lit] at hc
        obtain ⟨op, pv, hop⟩ := op_of_trod T hc ht
        exact ⟨op, fun _ => ⟨rfl, World.block_lt_of_cell? w _ hv0, pv, hop⟩⟩
      · exact ⟨⟨0, 0, 0, 0, 0, []⟩, fun h => absurd h hi⟩
    obtain ⟨F, hF⟩ := Classical.axiomOfChoice each
    have hlen' : ((List.range len).map F).length = len := by simp
    refine ⟨(List.range len).map F, some a, cap, by rw [hlen']; exact hcs, by rw [hlen']; unfold maxLen at hm; omega, ?_⟩
    by_cases h0 : len = 0
    · left; subst h0; rfl
    · right
      obtain ⟨hs, hb, _⟩ := hF 0 (by omega)
      obtain ⟨b, o, s⟩ := a
      cases hs
      refine ⟨b, o, rfl, hb, hb, fun j y hy => ?_⟩
      rw [List.getElem?_map] at hy
      cases hj : (List.range len)[j]? with
      | none => simp [hj] at hy
      | some k =>
        rw [hj] at hy
        injection hy with hy
        have hk : j < len ∧ k = j := by
          have := List.getElem?_eq_some_iff.1 hj
          simp at this; exact ⟨this.1, this.2.symm⟩
        obtain ⟨hk1, rfl⟩ := hk
        subst hy
        exact (hF k hk1).2.2
end

theorem opTypes : OpTypes Try.prog := ⟨Try.underlying3, Try.underlying5, Try.underlying46, Try.underlying39, by kernel_rfl, by kernel_rfl, by kernel_rfl, by kernel_rfl, by kernel_rfl⟩

end Go.Proofs.Ytmbkmfpnjpkakaa
