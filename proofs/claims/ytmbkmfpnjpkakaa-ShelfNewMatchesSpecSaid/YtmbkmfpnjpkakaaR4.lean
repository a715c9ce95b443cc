/- Plain facts for the law on Rot: what a rotten bit makes of the contents. -/
import Derived.Test.YtmbkmfpnjpkakaaR3
namespace Go.Dsk0
theorem rot_nat {D : Dsk} {i b : Nat} (h : i < D.length) (hb : b < 512) : rot D i b = (0, rotC (rotD D i b) i b) := by
  unfold rot; rw [if_pos ⟨has_nat h, by omega, by omega⟩]; rfl
theorem rots_length (D : Dsk) (i b : Nat) : (rotC (rotD D i b) i b).length = D.length := by simp [rotC, rotD]
theorem cont_rots {D : Dsk} {i b : Nat} {s : Sec} (h : D[i]? = some s) : (rotC (rotD D i b) i b).map cont = (D.map cont).set i (flip (cont s) b) := by
  have hl : i < D.length := (List.getElem?_eq_some_iff.1 h).1
  apply List.ext_getElem?
  intro k
  simp only [rotC, rotD, List.getElem?_map, List.getElem?_modify, List.getElem?_set, List.length_map]
  by_cases hk : i = k
  · subst hk
    rw [h]
    simp only [Option.map_some, if_pos hl, if_true]
    unfold cont
    cases hq : s.cac <;> simp [hq]
  · simp [hk]
theorem cont_flush (D : Dsk) : (flush D).map cont = D.map cont := by
  simp [flush, cont]
theorem xor_xor_self (x m : UInt8) : x ^^^ m ^^^ m = x := by
  rw [UInt8.xor_assoc, UInt8.xor_self, UInt8.xor_zero]
theorem flip_flip (l : List UInt8) (b : Nat) : flip (flip l b) b = l := by
  apply List.ext_getElem?
  intro k
  simp only [flip, List.getElem?_modify]
  cases l[k]? with
  | none => rfl
  | some x => by_cases h : b / 8 = k <;> simp [h, xor_xor_self]
theorem flip_eq {l : List UInt8} {b : Nat} {x : UInt8} (h : l[b / 8]? = some x) : flip l b = l.set (b / 8) (x ^^^ ((1 : UInt8) <<< (UInt8.ofNat (b % 8)))) := by
  apply List.ext_getElem?
  intro k
  simp only [flip, List.getElem?_modify, List.getElem?_set]
  have hl : b / 8 < l.length := (List.getElem?_eq_some_iff.1 h).1
  by_cases hk : b / 8 = k
  · subst hk; simp [hl]
    rw [List.getElem?_eq_getElem hl] at h; rw [Option.some.inj h]
  · simp [hk]
end Go.Dsk0
namespace Go.Proofs.Ytmbkmfpnjpkakaa
open Go.ChangeShapes Go.WideShapes Go.ChangeAt Go.RowKit Go.Im Go.Dsk0
theorem conts_rots {D : Dsk} {i b : Nat} {c : List UInt8} (h : (conts D)[i]? = some c) : conts (rotC (rotD D i b) i b) = (conts D).set i (flip c b) := by
  unfold conts at h
  rw [List.getElem?_map] at h
  cases hs : D[i]? with
  | none => simp [hs] at h
  | some s =>
    rw [hs] at h
    injection h with h
    subst h
    exact cont_rots hs
theorem conts_flush (D : Dsk) : conts (flush D) = conts D := cont_flush D
theorem conts_get {D : Dsk} (hD : Ok D) {i : Nat} (h : i < D.length) : ∃ c, (conts D)[i]? = some c ∧ c.length = 64 :=
  ⟨cont D[i], by unfold conts; rw [List.getElem?_map, List.getElem?_eq_getElem h]; rfl, cont_length hD (List.getElem_mem h)⟩
theorem flip_cells {cc : List UInt8} {X : Array Value} {j : Nat} {x0 : UInt8} (hx : cc[j / 8]? = some x0) (hX : ∀ k, k < cc.length → X[k]? = (cc[k]?).map B) (k : Nat) (y : UInt8) (hy : (flip cc j)[k]? = some y) :
    (X.setIfInBounds (j / 8) (B (x0 ^^^ ((1 : UInt8) <<< (UInt8.ofNat (j % 8))))))[k]? = some (B y) := by
  rw [flip_eq hx, List.getElem?_set] at hy
  have hl : j / 8 < cc.length := (List.getElem?_eq_some_iff.1 hx).1
  have hxs : j / 8 < X.size := by
    have := hX _ hl
    rw [hx] at this
    exact (Array.getElem?_eq_some_iff.1 this).1
  rw [Array.getElem?_setIfInBounds]
  by_cases hk : j / 8 = k
  · rw [if_pos hk, if_pos (by omega)] at hy
    rw [if_pos hk, if_pos hxs]
    exact congrArg (fun z => some (B z)) (Option.some.inj hy)
  · rw [if_neg hk] at hy ⊢
    have hkl : k < cc.length := (List.getElem?_eq_some_iff.1 hy).1
    rw [hX k hkl, hy]; rfl
end Go.Proofs.Ytmbkmfpnjpkakaa
