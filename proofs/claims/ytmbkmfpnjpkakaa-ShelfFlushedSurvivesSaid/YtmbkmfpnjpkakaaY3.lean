/- The places in memory. -/
import Derived.Test.YtmbkmfpnjpkakaaX14
import Derived.Test.YtmbkmfpnjpkakaaY1
import Derived.Test.YtmbkmfpnjpkakaaY2
namespace Go.Proofs.Ytmbkmfpnjpkakaa
open Go.RowKit Go.Im Go.Dsk0

theorem flat_get : ∀ (l : List Shf0.Place) (k : Nat) (p : Shf0.Place), l[k]? = some p → ∀ u, u < 3 → (l.flatMap plcC)[k * 3 + u]? = (plcC p)[u]?
  | [], _, _, h, _, _ => by simp at h
  | x :: l, 0, p, h, u, hu => by
    have e : x = p := by simpa using h
    subst e
    rw [List.flatMap_cons, List.getElem?_append_left (by simp [plcC]; omega), Nat.zero_mul, Nat.zero_add]
  | x :: l, k + 1, p, h, u, hu => by
    have h' : l[k]? = some p := by simpa using h
    have hl : (plcC x).length = 3 := rfl
    rw [List.flatMap_cons, List.getElem?_append_right (by rw [hl]; omega), hl, show (k + 1) * 3 + u - 3 = k * 3 + u by omega]
    exact flat_get l k p h' u hu
/-- A row of places, opened. -/
theorem row_plcs {w : World} {base : Nat} {v : Value} {l : List Shf0.Place} (h : w.ownsRow base 25 3 v l.length (l.flatMap plcC)) (hne : l ≠ []) : ∃ gb vc, v = .slice (some ⟨gb, 0, none⟩) l.length vc ∧ base ≤ gb ∧ gb < w.heap.size ∧ ∀ (k : Nat) (p : Shf0.Place), l[k]? = some p → w.cell? ⟨gb, k * 3, none⟩ = some (.int .i64 p.disk) ∧ w.cell? ⟨gb, k * 3 + 1, none⟩ = some (.int .i64 p.area) ∧ w.cell? ⟨gb, k * 3 + 2, none⟩ = some (.int .i64 p.index) := by
  obtain ⟨h1, h2⟩ := h
  have h0 : 0 < l.length := by cases l with
    | nil => exact absurd rfl hne
    | cons _ _ => simp
  rcases h2 with h2 | ⟨gb, vc, cur, h2, h3, h4, h5, h6, h7, h8⟩
  · omega
  · refine ⟨gb, vc, h2, h3, lt_of_blk h4, fun k p hk => ?_⟩
    have hkl : k < l.length := (List.getElem?_eq_some_iff.1 hk).1
    have g : ∀ u, u < 3 → w.cell? ⟨gb, k * 3 + u, none⟩ = (plcC p)[u]? := fun u hu => by
      have := flat_get l k p hk u hu
      rw [← h8, List.getElem?_take_of_lt (by omega)] at this
      rw [cell_of_blk h4, ← this]
      simp
    exact ⟨g 0 (by omega), g 1 (by omega), g 2 (by omega)⟩
end Go.Proofs.Ytmbkmfpnjpkakaa
namespace Go.Shf0
theorem places_ne {c : Cfg} (hv : valid c) : places c ≠ [] := by
  obtain ⟨⟨d1, d2⟩, -, -, -, ⟨l1, -⟩, -, -⟩ := hv
  have h : (⟨(0 : Nat), ((0 : Nat) : Int) + 1, (0 : Nat)⟩ : Place) ∈ places c := by
    unfold places diskP rowP
    refine List.mem_flatMap.2 ⟨0, List.mem_range.2 (by omega), List.mem_flatMap.2 ⟨0, List.mem_range.2 (by omega), List.mem_map.2 ⟨0, List.mem_range.2 ?_, rfl⟩⟩⟩
    unfold sizes
    simp; omega
  intro hn
  rw [hn] at h
  cases h
theorem places_len {c : Cfg} (hv : valid c) (hsm : small c = true) : (places c).length ≤ 1000 := by
  rw [← pre_all]
  have := (of_decide_eq_true hsm).1
  exact pre_len hsm (by omega) (by omega) (by omega)
/-- The configuration stays. -/
theorem step_cfg (S : Shelf) (d : Int) (f : Dsk0.Dsk → Dsk0.Dsk) : (step S d f).2.cfg = S.cfg := by
  unfold step
  split
  · rfl
  · split
    · split <;> rfl
    · rfl
theorem flush_cfg (S : Shelf) (d : Int) : (flush S d).2.cfg = S.cfg := by
  unfold flush
  split
  · rfl
  · exact step_cfg S d _
theorem flushFrom_cfg : ∀ (n : Nat) (S : Shelf) (k : Nat), (flushFrom S k n).2.cfg = S.cfg
  | 0, _, _ => rfl
  | n + 1, S, k => by
    unfold flushFrom
    split
    · exact flushFrom_cfg n S _
    · split
      · exact flush_cfg S k
      · rw [flushFrom_cfg n]; exact flush_cfg S k
theorem arm_cfg (S : Shelf) (p : Place) (ok : Bool) (f : Dsk0.Dsk → Int → Int × Dsk0.Dsk) : (arm S p ok f).2.cfg = S.cfg := by
  unfold arm
  split
  · split <;> rfl
  · rfl
theorem doOp_cfg (S : Shelf) (o : SOp) : (doOp S o).2.cfg = S.cfg := by
  unfold doOp
  by_cases h1 : o.kind = 1
  · rw [if_pos h1]
    show (write S o.at_ (text o)).2.cfg = _
    unfold write; by_cases h : there S o.at_ ∧ (text o).length = 64
    · rw [if_pos h, step_cfg]
    · rw [if_neg h]
  rw [if_neg h1]
  by_cases h2 : o.kind = 2
  · rw [if_pos h2]
  rw [if_neg h2]
  by_cases h3 : o.kind = 3
  · rw [if_pos h3]; exact flush_cfg S _
  rw [if_neg h3]
  by_cases h4 : o.kind = 4
  · rw [if_pos h4]
    show (flushAll S).2.cfg = _
    unfold flushAll; split
    · rfl
    · exact flushFrom_cfg _ _ _
  rw [if_neg h4]
  by_cases h5 : o.kind = 5
  · rw [if_pos h5]; rfl
  rw [if_neg h5]
  by_cases h6 : o.kind = 6
  · rw [if_pos h6]; rfl
  rw [if_neg h6]
  by_cases h7 : o.kind = 7
  · rw [if_pos h7]
    show (kill S o.at_.disk).2.cfg = _
    unfold kill; split <;> rfl
  rw [if_neg h7]
  by_cases h8 : o.kind = 8
  · rw [if_pos h8]
    show (remove S o.at_.disk).2.2.cfg = _
    unfold remove; split <;> rfl
  rw [if_neg h8]
  by_cases h9 : o.kind = 9
  · rw [if_pos h9]
    show (insert S o.at_.disk o.n).2.cfg = _
    unfold insert; split
    · rfl
    · split
      · rfl
      · split <;> rfl
  rw [if_neg h9]
  by_cases h10 : o.kind = 10
  · rw [if_pos h10]
    show (replace S o.at_.disk).2.cfg = _
    unfold replace; split <;> rfl
  rw [if_neg h10]
  by_cases h11 : o.kind = 11
  · rw [if_pos h11]; exact arm_cfg _ _ _ _
  rw [if_neg h11]
  by_cases h12 : o.kind = 12
  · rw [if_pos h12]; exact arm_cfg _ _ _ _
  rw [if_neg h12]
  by_cases h13 : o.kind = 13
  · rw [if_pos h13]; exact arm_cfg _ _ _ _
  rw [if_neg h13]
theorem play_cfg (l : List SOp) : ∀ S : Shelf, (play S l).cfg = S.cfg := by
  induction l with
  | nil => intro S; rfl
  | cons o l ih => intro S; exact (ih _).trans (doOp_cfg S o)
end Go.Shf0
