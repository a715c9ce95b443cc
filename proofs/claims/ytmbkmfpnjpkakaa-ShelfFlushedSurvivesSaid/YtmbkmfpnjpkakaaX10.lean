/- A script adds at most one image an operation. -/
import Derived.Test.YtmbkmfpnjpkakaaX9
namespace Go.Shf0
open Go.Dsk0
theorem step_images (S : Shelf) (d : Int) (f : Dsk → Dsk) : (step S d f).2.images = S.images := by
  unfold step
  split
  · rfl
  · split
    · split <;> rfl
    · rfl
theorem flush_images (S : Shelf) (d : Int) : (flush S d).2.images = S.images := by
  unfold flush
  split
  · rfl
  · exact step_images S d _
theorem flushFrom_images : ∀ (n : Nat) (S : Shelf) (k : Nat), (flushFrom S k n).2.images = S.images
  | 0, _, _ => rfl
  | n + 1, S, k => by
    unfold flushFrom
    split
    · exact flushFrom_images n S _
    · split
      · exact flush_images S k
      · rw [flushFrom_images n]; exact flush_images S k
theorem arm_images (S : Shelf) (p : Place) (ok : Bool) (f : Dsk → Int → Int × Dsk) : (arm S p ok f).2.images = S.images := by
  unfold arm
  split
  · split <;> rfl
  · rfl
theorem doOp_images (S : Shelf) (o : SOp) : (doOp S o).2.images.length ≤ S.images.length + 1 := by
  unfold doOp
  by_cases h1 : o.kind = 1
  · rw [if_pos h1]
    show (write S o.at_ (text o)).2.images.length ≤ _
    unfold write; by_cases h : there S o.at_ ∧ (text o).length = 64
    · rw [if_pos h, step_images]; omega
    · rw [if_neg h]; simp
  rw [if_neg h1]
  by_cases h2 : o.kind = 2
  · rw [if_pos h2]
    exact Nat.le_succ _
  rw [if_neg h2]
  by_cases h3 : o.kind = 3
  · rw [if_pos h3]
    show (flush S o.at_.disk).2.images.length ≤ _
    rw [flush_images]; omega
  rw [if_neg h3]
  by_cases h4 : o.kind = 4
  · rw [if_pos h4]
    show (flushAll S).2.images.length ≤ _
    unfold flushAll; split
    · simp
    · rw [flushFrom_images]; omega
  rw [if_neg h4]
  by_cases h5 : o.kind = 5
  · rw [if_pos h5]
    exact Nat.le_succ _
  rw [if_neg h5]
  by_cases h6 : o.kind = 6
  · rw [if_pos h6]
    exact Nat.le_succ _
  rw [if_neg h6]
  by_cases h7 : o.kind = 7
  · rw [if_pos h7]
    show (kill S o.at_.disk).2.images.length ≤ _
    unfold kill; split <;> exact Nat.le_succ _
  rw [if_neg h7]
  by_cases h8 : o.kind = 8
  · rw [if_pos h8]
    show (remove S o.at_.disk).2.2.images.length ≤ _
    unfold remove; split
    · simp
    · exact Nat.le_succ _
  rw [if_neg h8]
  by_cases h9 : o.kind = 9
  · rw [if_pos h9]
    show (insert S o.at_.disk o.n).2.images.length ≤ _
    unfold insert; split
    · exact Nat.le_succ _
    · split
      · exact Nat.le_succ _
      · split <;> exact Nat.le_succ _
  rw [if_neg h9]
  by_cases h10 : o.kind = 10
  · rw [if_pos h10]
    show (replace S o.at_.disk).2.images.length ≤ _
    unfold replace; split <;> exact Nat.le_succ _
  rw [if_neg h10]
  by_cases h11 : o.kind = 11
  · rw [if_pos h11]
    show (rot S o.at_ o.n).2.images.length ≤ _
    unfold rot; rw [arm_images]; omega
  rw [if_neg h11]
  by_cases h12 : o.kind = 12
  · rw [if_pos h12]
    show (lose S o.at_).2.images.length ≤ _
    unfold lose; rw [arm_images]; omega
  rw [if_neg h12]
  by_cases h13 : o.kind = 13
  · rw [if_pos h13]
    show (misdirect S o.at_ o.tgt).2.images.length ≤ _
    unfold misdirect; rw [arm_images]; omega
  rw [if_neg h13]
  exact Nat.le_succ _
theorem play_images (l : List SOp) : ∀ S : Shelf, (play S l).images.length ≤ S.images.length + l.length := by
  induction l with
  | nil => intro S; exact Nat.le_refl _
  | cons o l ih =>
    intro S
    have h1 := ih (doOp S o).2
    have h2 := doOp_images S o
    simp only [play, List.length_cons]
    omega
end Go.Shf0
