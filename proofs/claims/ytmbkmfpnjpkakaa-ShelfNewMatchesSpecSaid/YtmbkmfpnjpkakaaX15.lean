/- The places in memory. -/
import Derived.Test.YtmbkmfpnjpkakaaX14
namespace Go.Proofs.Ytmbkmfpnjpkakaa
open Go.RowKit Go.Im Go.Dsk0

theorem flat_get : ∀ (l : List Shf0.Place) (k : Nat) (p : Shf0.Place), l[k]? = some p → ∀ u, u < 3 → (l.flatMap plcC)[k * 3 + u]? = (plcC p)[u]?
  | [], _, _, h, _, _ => by simp at h
  | x :: l, 0, p, h, u, hu => by
    have e : x = p := by simpa using h
    subst e
    rw [List.flatMap_cons, List.getElem?_append_left (by simp [plcC]; omega), Nat.zero_mul, Nat.zero_add]
  | x :: l, k + 1, p, h, u, hu => by
    have h' : l[k]? = some p := by simpa using h
    have hl : (plcC x).length = 3 := rfl
    rw [List.flatMap_cons, List.getElem?_append_right (by rw [hl]; omega), hl, show (k + 1) * 3 + u - 3 = k * 3 + u by omega]
    exact flat_get l k p h' u hu
/-- A row of places, opened. -/
theorem row_plcs {w : World} {base : Nat} {v : Value} {l : List Shf0.Place} (h : w.ownsRow base 25 3 v l.length (l.flatMap plcC)) (hne : l ≠ []) : ∃ gb vc, v = .slice (some ⟨gb, 0, none⟩) l.length vc ∧ base ≤ gb ∧ gb < w.heap.size ∧ ∀ (k : Nat) (p : Shf0.Place), l[k]? = some p → w.cell? ⟨gb, k * 3, none⟩ = some (.int .i64 p.disk) ∧ w.cell? ⟨gb, k * 3 + 1, none⟩ = some (.int .i64 p.area) ∧ w.cell? ⟨gb, k * 3 + 2, none⟩ = some (.int .i64 p.index) := by
  obtain ⟨h1, h2⟩ := h
  have h0 : 0 < l.length := by cases l with
    | nil => exact absurd rfl hne
    | cons _ _ => simp
  rcases h2 with h2 | ⟨gb, vc, cur, h2, h3, h4, h5, h6, h7, h8⟩
  · omega
  · refine ⟨gb, vc, h2, h3, lt_of_blk h4, fun k p hk => ?_⟩
    have hkl : k < l.length := (List.getElem?_eq_some_iff.1 hk).1
    have g : ∀ u, u < 3 → w.cell? ⟨gb, k * 3 + u, none⟩ = (plcC p)[u]? := fun u hu => by
      have := flat_get l k p hk u hu
      rw [← h8, List.getElem?_take_of_lt (by omega)] at this
      rw [cell_of_blk h4, ← this]
      simp
    exact ⟨g 0 (by omega), g 1 (by omega), g 2 (by omega)⟩
end Go.Proofs.Ytmbkmfpnjpkakaa
namespace Go.Shf0
theorem places_ne {c : Cfg} (hv : valid c) : places c ≠ [] := by
  obtain ⟨⟨d1, d2⟩, -, -, -, ⟨l1, -⟩, -, -⟩ := hv
  have h : (⟨(0 : Nat), ((0 : Nat) : Int) + 1, (0 : Nat)⟩ : Place) ∈ places c := by
    unfold places diskP rowP
    refine List.mem_flatMap.2 ⟨0, List.mem_range.2 (by omega), List.mem_flatMap.2 ⟨0, List.mem_range.2 (by omega), List.mem_map.2 ⟨0, List.mem_range.2 ?_, rfl⟩⟩⟩
    unfold sizes
    simp; omega
  intro hn
  rw [hn] at h
  cases h
theorem places_len {c : Cfg} (_ : valid c) (hsm : small c = true) : (places c).length ≤ 1000 := by
  rw [← pre_all]
  have := (of_decide_eq_true hsm).1
  exact pre_len hsm (by omega) (by omega) (by omega)
end Go.Shf0
