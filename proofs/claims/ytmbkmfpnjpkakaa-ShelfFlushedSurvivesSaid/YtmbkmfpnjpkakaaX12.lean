/- Scripts of the shelf's laws, out of an argument. -/
import Derived.Test.YtmbkmfpnjpkakaaX11
namespace Go.Proofs.Ytmbkmfpnjpkakaa
open Go.ChangeShapes Go.WideShapes Go.ChangeAt Go.RowKit Go.Im Go.Dsk0
section
variable {H : Type} {enc : TypeId × Value → H} {w : World}
theorem ints_cap {v : Value} {fuel : Nat} {x : DataW H × List MemPlace} (hf : DataW.trod enc Try.prog w 0 (fun _ => true) true fuel 46 [v] = some x) : ∃ (pa : Option Addr) (pc : Nat) (zs : List Int), v = .slice pa zs.length pc ∧ zs.length ≤ pc ∧ IntsAt w (.slice pa zs.length pc) zs (fun b => b < w.heap.size) := by
  rcases open_ints opTypes.u46 opTypes.u3 opTypes.c3 hf with ⟨hcs, _⟩ | ⟨a, len, cap, zs, hcs, _, hlc, hm, hz, _, hcell, _⟩
  · injection hcs with hcs _
    exact ⟨none, 0, [], hcs, Nat.le_refl _, none, 0, rfl, by simp, .inl rfl⟩
  · injection hcs with hcs _
    simp only [if_true] at hz
    have hlen : (zs.take len).length = len := by rw [List.length_take]; omega
    refine ⟨some a, cap, zs.take len, by rw [hlen]; exact hcs, by rw [hlen]; exact hlc, some a, cap, rfl, by rw [hlen]; unfold maxLen at hm; omega, ?_⟩
    by_cases h0 : len = 0
    · left; subst h0; simp
    · right
      have hs := lit_of_cell (a := a) (hcell 0 (by omega))
      have hb : a.block < w.heap.size := World.block_lt_of_cell? w _ (hcell 0 (by omega))
      obtain ⟨b, o, s⟩ := a
      cases hs
      refine ⟨b, o, rfl, hb, hb, fun j y hy => ?_⟩
      rw [List.getElem?_take] at hy
      split at hy
      · have hj : j < zs.length := (List.getElem?_eq_some_iff.1 hy).1
        have := hcell j hj
        rw [List.getD_eq_getElem?_getD, hy, add_lit] at this
        exact this
      · cases hy


theorem f90' : fieldsOf Try.prog 90 = some [(3, 0), (25, 1), (25, 4), (3, 7), (5, 8), (3, 9), (46, 10)] := by kernel_rfl
theorem f77' : fieldsOf Try.prog 77 = some [(23, 0), (75, 6), (3, 7)] := by kernel_rfl
theorem cl90 : Try.prog.cellsOf 90 = 11 := by kernel_rfl
theorem cl77 : Try.prog.cellsOf 77 = 8 := by kernel_rfl
theorem cl75 : Try.prog.cellsOf 75 = 1 := by kernel_rfl
theorem mt75 : Try.prog.underlying 75 = some (.slice 90) := by kernel_rfl

set_option maxRecDepth 100000 in
/-- One operation, out of its eleven cells. -/
theorem sop_of_trod {b p fuel : Nat} {cs : List Value} {x : DataW H × List MemPlace} (hc : w.cells? 0 ⟨b, p, none⟩ 11 = some cs) (h : DataW.trod enc Try.prog w 0 (fun _ => true) true fuel 90 cs = some x) : ∃ o pa pc, SOpAt w b p o pa pc (fun b => b < w.heap.size) := by
  obtain ⟨hl, n, hf⟩ := field_trod f90' h
  obtain ⟨-, hg⟩ := cells_get hc
  rw [cl90] at hl
  obtain ⟨y0, h0⟩ := hf 0 3 0 rfl
  obtain ⟨y1, h1⟩ := hf 1 25 1 rfl
  obtain ⟨y2, h2⟩ := hf 2 25 4 rfl
  obtain ⟨y3, h3⟩ := hf 3 3 7 rfl
  obtain ⟨y4, h4⟩ := hf 4 5 8 rfl
  obtain ⟨y5, h5⟩ := hf 5 3 9 rfl
  obtain ⟨y6, h6⟩ := hf 6 46 10 rfl
  obtain ⟨n0, e0⟩ := int_field h0
  obtain ⟨p1, e1⟩ := plc_field h1
  obtain ⟨p2, e2⟩ := plc_field h2
  obtain ⟨n3, e3⟩ := int_field h3
  obtain ⟨n4, e4⟩ := u8_field h4
  obtain ⟨n5, e5⟩ := int_field h5
  have e6 : ∃ v, cs[10]? = some v ∧ (cs.drop 10).take 1 = [v] := by
    match cs, hl with
    | [v0, v1, v2, v3, v4, v5, v6, v7, v8, v9, v10], _ => exact ⟨v10, rfl, rfl⟩
  obtain ⟨v, e6, e7⟩ := e6
  rw [opTypes.c46, e7] at h6
  obtain ⟨pa, pc, zs, rfl, hle, hz⟩ := ints_cap h6
  refine ⟨⟨n0, p1, p2, n3, n4, n5, zs⟩, pa, pc, fun u v hv => ?_, hz, hle⟩
  have hu : u < 11 := (Array.getElem?_eq_some_iff.1 hv).1
  have g := hg u hu
  rw [add_lit] at g
  rw [g, ← hv]
  have : u = 0 ∨ u = 1 ∨ u = 2 ∨ u = 3 ∨ u = 4 ∨ u = 5 ∨ u = 6 ∨ u = 7 ∨ u = 8 ∨ u = 9 ∨ u = 10 := by omega
  rcases this with rfl | rfl | rfl | rfl | rfl | rfl | rfl | rfl | rfl | rfl | rfl
  · exact e0
  · exact e1 0 (by omega)
  · exact e1 1 (by omega)
  · exact e1 2 (by omega)
  · exact e2 0 (by omega)
  · exact e2 1 (by omega)
  · exact e2 2 (by omega)
  · exact e3
  · exact e4
  · exact e5
  · exact e6
/-- A script, out of an argument. -/
theorem sops_of_cells {v : Value} {fuel : Nat} {x : DataW H × List MemPlace} (hf : DataW.trod enc Try.prog w 0 (fun _ => true) true fuel 75 [v] = some x) : ∃ l, SOpsAt w v l (fun b => b < w.heap.size) := by
  rcases DataW.trod_slice mt75 hf with ⟨hcs, _⟩ | ⟨a, len, cap, elems, rest, n, _, hcs, _, _, hl, hm, hlen, hel, _, _⟩
  · injection hcs with hcs _
    exact ⟨[], none, 0, hcs, by simp, .inl rfl⟩
  · injection hcs with hcs _
    have each : ∀ i, ∃ o : Shf0.SOp, i < len → a.spot = none ∧ a.block < w.heap.size ∧ ∃ pa pc, SOpAt w a.block (a.off + i * 11) o pa pc (fun b => b < w.heap.size) := by
      intro i
      by_cases hi : i < len
      · have h1 := hel i hi
        rw [List.getElem?_eq_getElem (by omega), cl90] at h1
        obtain ⟨cs, hc, ht⟩ := Option.bind_eq_some_iff.1 h1
        have h2 := hel 0 (by omega)
        rw [List.getElem?_eq_getElem (by omega), cl90] at h2
        obtain ⟨cs0, hc0, ht0⟩ := Option.bind_eq_some_iff.1 h2
        have hs0 := (cells_get hc0).2 0 (by omega)
        have hsome : ∃ v0, w.cell? a = some v0 := by
          have hl0 := (cells_get hc0).1
          refine ⟨cs0[0], ?_⟩
          have : (a.add (0 * 11)).add 0 = a := by simp [Addr.add]
          rw [this] at hs0
          rw [hs0, List.getElem?_eq_getElem (by omega)]
        obtain ⟨v0, hv0⟩ := hsome
        have hsp := lit_of_cell hv0
        obtain ⟨b, o, s⟩ := a
        cases hsp
        rw [add_lit] at hc
        obtain ⟨op, pa, pc, hop⟩ := sop_of_trod hc ht
        exact ⟨op, fun _ => ⟨rfl, World.block_lt_of_cell? w _ hv0, pa, pc, hop⟩⟩
      · exact ⟨⟨0, ⟨0, 0, 0⟩, ⟨0, 0, 0⟩, 0, 0, 0, []⟩, fun h => absurd h hi⟩
    obtain ⟨F, hF⟩ := Classical.axiomOfChoice each
    have hlen' : ((List.range len).map F).length = len := by simp
    refine ⟨(List.range len).map F, some a, cap, by rw [hlen']; exact hcs, by rw [hlen']; unfold maxLen at hm; omega, ?_⟩
    by_cases h0 : len = 0
    · left; subst h0; rfl
    · right
      obtain ⟨hs, hb, _⟩ := hF 0 (by omega)
      obtain ⟨b, o, s⟩ := a
      cases hs
      refine ⟨b, o, rfl, hb, hb, fun j y hy => ?_⟩
      rw [List.getElem?_map] at hy
      cases hj : (List.range len)[j]? with
      | none => simp [hj] at hy
      | some k =>
        rw [hj] at hy
        injection hy with hy
        have hk : j < len ∧ k = j := by
          have := List.getElem?_eq_some_iff.1 hj
          simp at this; exact ⟨this.1, this.2.symm⟩
        obtain ⟨hk1, rfl⟩ := hk
        subst hy
        exact (hF k hk1).2.2
end
end Go.Proofs.Ytmbkmfpnjpkakaa
