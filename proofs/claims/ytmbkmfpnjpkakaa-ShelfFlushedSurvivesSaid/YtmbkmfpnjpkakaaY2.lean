/- The shelf laws' common argument. -/
import Derived.Test.YtmbkmfpnjpkakaaX12
namespace Go.Proofs.Ytmbkmfpnjpkakaa
open Go.ChangeShapes Go.WideShapes Go.ChangeAt Go.RowKit Go.Im Go.Dsk0

def playsA (c : Shf0.Cfg) (v : Value) (n : Int) : Array Value :=
  #[.int .i64 c.disks, .int .i64 c.racks, .int .i64 c.rows, .int .i64 c.spare, .int .i64 c.log, .int .i64 c.image, v, .int .i64 n]
theorem nil_ints (w : World) (ok : Nat → Prop) : IntsAt w (.slice none ([] : List Int).length 0) [] ok := ⟨none, 0, rfl, by simp, .inl rfl⟩
theorem SOpsAt.grow {w w' : World} {v : Value} {l : List Shf0.SOp} (h0 : SOpsAt w v l (fun b => b < w.heap.size)) (f : Fr (fun _ => False) w w') : SOpsAt w' v l (fun b => b < w'.heap.size) := by
  have h := h0.fr f (fun _ _ _ h => h)
  obtain ⟨a, cc, h1, h2, h3 | ⟨b, p, h3, h4, h5, h6⟩⟩ := h
  · exact ⟨a, cc, h1, h2, .inl h3⟩
  · refine ⟨a, cc, h1, h2, .inr ⟨b, p, h3, h4, h4, fun j o ho => ?_⟩⟩
    obtain ⟨pa, pc, h7⟩ := h6 j o ho
    exact ⟨pa, pc, h7.cells, h7.picks.imp (fun q _ hq => Nat.lt_of_lt_of_le hq f.size), h7.cap⟩
section
variable {H : Type} {enc : TypeId × Value → H} {w : World}
/-- The argument, opened. -/
theorem plays_of_cells {fuel : Nat} {cs : Array Value} {x : DataW H × List MemPlace} (h : DataW.trod enc Try.prog w 0 (fun _ => true) true fuel 77 cs.toList = some x) : ∃ c v n l, cs = playsA c v n ∧ SOpsAt w v l (fun b => b < w.heap.size) := by
  obtain ⟨hl, n, hf⟩ := field_trod f77' h
  rw [cl77] at hl
  obtain ⟨y0, h0⟩ := hf 0 23 0 rfl
  obtain ⟨y1, h1⟩ := hf 1 75 6 rfl
  obtain ⟨y2, h2⟩ := hf 2 3 7 rfl
  obtain ⟨c, ec⟩ := cfg_field h0
  obtain ⟨m, em⟩ := int_field h2
  have e6 : ∃ v, cs.toList[6]? = some v ∧ (cs.toList.drop 6).take 1 = [v] := by
    match cs.toList, hl with
    | [v0, v1, v2, v3, v4, v5, v6, v7], _ => exact ⟨v6, rfl, rfl⟩
  obtain ⟨v, e6, e7⟩ := e6
  rw [cl75, e7] at h1
  obtain ⟨l, hs⟩ := sops_of_cells h1
  refine ⟨c, v, m, l, ?_, hs⟩
  apply Array.ext_getElem?
  intro i
  rw [← Array.getElem?_toList]
  by_cases hi : i < 8
  · have : i = 0 ∨ i = 1 ∨ i = 2 ∨ i = 3 ∨ i = 4 ∨ i = 5 ∨ i = 6 ∨ i = 7 := by omega
    rcases this with rfl | rfl | rfl | rfl | rfl | rfl | rfl | rfl
    · exact ec 0 (by omega)
    · exact ec 1 (by omega)
    · exact ec 2 (by omega)
    · exact ec 3 (by omega)
    · exact ec 4 (by omega)
    · exact ec 5 (by omega)
    · exact e6
    · exact em
  · rw [List.getElem?_eq_none (by omega), Array.getElem?_eq_none (by simp [playsA]; omega)]
end
end Go.Proofs.Ytmbkmfpnjpkakaa
