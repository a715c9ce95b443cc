/- Plain facts: the fuse counts the flushes. -/
import Derived.Test.YtmbkmfpnjpkakaaX12
namespace Go.Shf0
open Go.Dsk0

/-- A shelf whose fuse burns, with a bay in service. -/
structure Lit (S : Shelf) (d n : Int) : Prop where
  off : S.off = false
  fused : S.fused = true
  left : S.left = n
  st : state S d = 1
/-- A shelf without power, with a bay in service. -/
structure Down (S : Shelf) (d : Int) : Prop where
  off : S.off = true
  st : state S d = 1

theorem fuse_lit {S : Shelf} {d : Int} (hs : state S d = 1) {n : Int} (hn : 0 ≤ n) : Lit (fuse (mount S []) n) d n :=
  ⟨rfl, by unfold fuse; simp [hn], rfl, by have := state_mount S [] d; rw [hs] at this; exact this⟩
theorem lit_acc {S : Shelf} {d n : Int} (h : Lit S d n) : access S d = 0 := by unfold access; rw [h.off, h.st]; simp
theorem lit_flush {S : Shelf} {d : Int} {k : Nat} (hk : k ≤ 100) (h : Lit S d ((k : Int) + 1)) : (flush S d).1 = 0 ∧ Lit (flush S d).2 d k := by
  have e : flush S d = (0, turnD { S with left := (k : Int) } d.toNat Dsk0.flush) := by
    unfold flush step
    rw [if_neg (by rw [h.st]; decide), lit_acc h, h.fused, h.left]
    have hw : IntKind.i64.wrap ((k : Int) + 1 - 1) = k := by
      rw [show (k : Int) + 1 - 1 = k by omega]
      exact IntWalk.i64_in _ (by omega)
    rw [hw]
    simp; omega
  rw [e]
  refine ⟨rfl, h.off, h.fused, rfl, ?_⟩
  rw [state_turn]; exact h.st
theorem lit_burn {S : Shelf} {d : Int} (h : Lit S d 0) : (flush S d).1 = 14 ∧ Down (flush S d).2 d := by
  have e : flush S d = (14, { S with off := true, fused := false }) := by
    unfold flush step
    rw [if_neg (by rw [h.st]; decide), lit_acc h, h.fused, h.left]
    simp
  rw [e]
  exact ⟨rfl, rfl, h.st⟩
theorem down_flushAll {S : Shelf} {d : Int} (h : Down S d) : flushAll S = (14, S) := by unfold flushAll; rw [if_pos h.off]
theorem down_there {S : Shelf} {d : Int} (h : Down S d) (hv : valid S.cfg) : there S ⟨d, 1, 0⟩ := by
  obtain ⟨-, -, -, -, ⟨l1, l2⟩, -, -⟩ := hv
  refine ⟨by simp only; rw [h.st]; decide, by simp, by simp, by simp, ?_⟩
  unfold sizes
  simp; omega
theorem down_read {S : Shelf} {d : Int} (h : Down S d) (hv : valid S.cfg) : read S ⟨d, 1, 0⟩ = ([], 14) := by
  have ha : access S d = 14 := by unfold access; rw [if_pos h.off]
  unfold read
  rw [if_pos (down_there h hv)]
  simp [ha]
theorem down_write {S : Shelf} {d : Int} (h : Down S d) (hv : valid S.cfg) {l : List UInt8} (hl : l.length = 64) : write S ⟨d, 1, 0⟩ l = (14, S) := by
  have ha : access S d = 14 := by unfold access; rw [if_pos h.off]
  unfold write step
  rw [if_pos ⟨down_there h hv, hl⟩]
  simp [ha]
theorem up_mount (S : Shelf) (l : List Int) : (mount S l).off = false := rfl
theorem down_after {S : Shelf} {d : Int} (h : Down S d) : (flush (mount S []) d).1 = 0 := by
  have hs : state (mount S []) d = 1 := by rw [state_mount]; exact h.st
  unfold flush
  rw [if_neg (by rw [hs]; decide), step_plain rfl rfl hs]
end Go.Shf0
