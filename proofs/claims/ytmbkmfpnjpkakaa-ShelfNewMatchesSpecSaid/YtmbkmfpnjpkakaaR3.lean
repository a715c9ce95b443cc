/- Plain facts for the laws: contents of a disk behind an operation; a row of texts, one of them replaced. -/
import Derived.Test.YtmbkmfpnjpkakaaR2
namespace Go.Dsk0

theorem cont_clr (D : Dsk) (i : Nat) : (clr D i).map cont = D.map cont := by
  apply List.ext_getElem?
  intro k
  simp only [clr, List.getElem?_map, List.getElem?_modify]
  cases D[k]? with
  | none => rfl
  | some s => by_cases h : i = k <;> simp [h, cont]
theorem cont_arm (D : Dsk) (i : Nat) (t : Int) : (arm D i t).map cont = D.map cont := by
  apply List.ext_getElem?
  intro k
  simp only [arm, List.getElem?_map, List.getElem?_modify]
  cases D[k]? with
  | none => rfl
  | some s => by_cases h : i = k <;> simp [h, cont]
theorem cont_setc (D : Dsk) (i : Nat) (l : List UInt8) : (setc D i l).map cont = (D.map cont).set i l := by
  apply List.ext_getElem?
  intro k
  simp only [setc, List.getElem?_map, List.getElem?_modify, List.getElem?_set, List.length_map]
  by_cases h : i = k
  · subst h
    by_cases hl : i < D.length
    · simp [hl, cont]
    · simp [hl]
  · simp [h]
theorem has_arm (D : Dsk) (i : Nat) (t k : Int) : has (arm D i t) k = has D k := by simp [has, arm]
theorem has_clr (D : Dsk) (i : Nat) (k : Int) : has (clr D i) k = has D k := by simp [has, clr]
theorem has_setc (D : Dsk) (i : Nat) (l : List UInt8) (k : Int) : has (setc D i l) k = has D k := by simp [has, setc]
theorem goal_arm {D : Dsk} {i : Nat} {t : Int} (h : i < D.length) : goal (arm D i t) i = t := by
  unfold goal arm
  rw [Int.toNat_natCast, List.getElem?_modify]
  simp [h]
theorem goal_clr {D : Dsk} {i : Nat} : goal (clr D i) i = i := by
  unfold goal clr
  rw [Int.toNat_natCast, List.getElem?_modify]
  cases D[i]? <;> simp
theorem has_nat {D : Dsk} {i : Nat} (h : i < D.length) : has D i = true := has_iff.2 ⟨by omega, by omega⟩
theorem lose_nat {D : Dsk} {i : Nat} (h : i < D.length) : lose D i = (0, arm D i (-1)) := by unfold lose; rw [if_pos (has_nat h)]; rfl
theorem misdirect_nat {D : Dsk} {i j : Nat} (h : i < D.length) (hj : j < D.length) : misdirect D i j = (0, arm D i j) := by unfold misdirect; rw [if_pos ⟨has_nat h, has_nat hj⟩]; rfl
theorem write_nat {D : Dsk} {i : Nat} {l : List UInt8} (h : i < D.length) (hl : l.length = 64) : write D i l = (0, if goal D i = -1 then clr D i else setc (clr D i) (goal D i).toNat l) := by
  unfold write; rw [if_pos ⟨has_nat h, hl⟩]; rfl
/-- A write behind Lose. -/
theorem write_lose {D : Dsk} {i : Nat} {l : List UInt8} (h : i < D.length) (hl : l.length = 64) : write (arm D i (-1)) i l = (0, clr (arm D i (-1)) i) := by
  rw [write_nat (by simpa [arm] using h) hl, goal_arm h, if_pos rfl]
/-- A write behind Misdirect. -/
theorem write_wrong {D : Dsk} {i j : Nat} {l : List UInt8} (h : i < D.length) (hl : l.length = 64) : write (arm D i j) i l = (0, setc (clr (arm D i j) i) j l) := by
  rw [write_nat (by simpa [arm] using h) hl, goal_arm h, if_neg (by omega), Int.toNat_natCast]
/-- A write where no fault is armed. -/
theorem write_plain {D : Dsk} {i : Nat} {l : List UInt8} (h : i < D.length) (hl : l.length = 64) (hg : goal D i = i) : write D i l = (0, setc (clr D i) i l) := by
  rw [write_nat h hl, hg, if_neg (by omega), Int.toNat_natCast]
theorem goal_setc {D : Dsk} {i j : Nat} {l : List UInt8} : goal (setc D j l) i = goal D i := by
  unfold goal setc
  rw [Int.toNat_natCast, List.getElem?_modify]
  cases D[i]? with
  | none => rfl
  | some s => by_cases h : j = i <;> simp [h]

end Go.Dsk0
namespace Go.Im
theorem Fr.none {S : Nat → Prop} {w w' : World} (h : Fr (fun _ => False) w w') : Fr S w w' := h.mono (fun _ _ h => h.elim)
end Go.Im
namespace Go.Proofs.Ytmbkmfpnjpkakaa
open Go.ChangeShapes Go.WideShapes Go.ChangeAt Go.RowKit Go.Im Go.Dsk0

theorem conts_clr (D : Dsk) (i : Nat) : conts (clr D i) = conts D := cont_clr D i
theorem conts_arm (D : Dsk) (i : Nat) (t : Int) : conts (arm D i t) = conts D := cont_arm D i t
theorem conts_setc (D : Dsk) (i : Nat) (l : List UInt8) : conts (setc D i l) = (conts D).set i l := cont_setc D i l

/-- A row of texts, one of them to be replaced. -/
theorem row_set {w : World} {base : Nat} {v : Value} {n : Nat} {l : List (List UInt8)} (h : w.ownsRow base 9 1 v n (l.map strOf)) {j : Nat} (hj : j < n) (x : List UInt8) :
    ∃ gb vc cur, v = .slice (some ⟨gb, 0, none⟩) n vc ∧ base ≤ gb ∧ w.heap[gb]? = some (.cells cur 9 (0, 0)) ∧ j < cur.size ∧ ∀ w' : World, w'.heap[gb]? = some (.cells (cur.setIfInBounds j (strOf x)) 9 (0, 0)) → w'.ownsRow base 9 1 v n ((l.set j x).map strOf) := by
  obtain ⟨h1, h2 | ⟨gb, vc, cur, h2, h3, h4, h5, h6, h7, h8⟩⟩ := h
  · omega
  · refine ⟨gb, vc, cur, h2, h3, h4, by omega, fun w' hw => ⟨by simpa using h1, .inr ⟨gb, vc, _, h2, h3, hw, h5, h6, by simpa using h7, ?_⟩⟩⟩
    rw [List.map_set, ← h8]
    simp only [Array.toList_setIfInBounds, Nat.mul_one]
    rw [List.take_set]

theorem contents_n (g bd bc ba : Nat) (D : Dsk) (w : World) (h : DiskAt w g bd bc ba D) (n : Nat) (hn : D.length = n) :
    Calls Try.prog 34 #[.pointer (some ⟨g, 0, none⟩), .int .i64 n] w fun e w' => ∃ v, e = .returned v ∧ w'.ownsRow w.heap.size 9 1 v n ((conts D).map strOf) ∧ Fr (fun _ => False) w w' := by
  subst hn; exact contents_calls g bd bc ba D w h

theorem conts_length (D : Dsk) : (conts D).length = D.length := by simp [conts]

/-- Two rows of the same texts are equal. -/
theorem equal_yes (va vb : Value) (xs ys : List (List UInt8)) (w : World) {ba bb na nb : Nat} (ha : w.ownsRow ba 9 1 va na (xs.map strOf)) (hb : w.ownsRow bb 9 1 vb nb (ys.map strOf)) (hlx : xs.length ≤ 65536) (he : xs = ys) :
    Calls Try.prog 40 #[va, vb] w fun e w' => e = .returned (.bool true) ∧ Fr (fun _ => False) w w' := by
  refine (equal_calls va vb xs ys w ha hb hlx).mono ?_
  rintro e w' ⟨rfl, hf⟩
  exact ⟨by simp [he], hf⟩

/-- A frame that turns nothing keeps a disk. -/
theorem DiskAt.keep {w w' : World} {g bd bc ba : Nat} {D : Dsk} (h : DiskAt w g bd bc ba D) (f : Fr (fun _ => False) w w') : DiskAt w' g bd bc ba D := h.fr f (fun h => h) (fun _ h => h) (fun h => h) (fun h => h)
theorem row_keep {w w' : World} {base : Nat} {e : TypeId} {size : Nat} {v : Value} {n : Nat} {xs : List Value} (h : w.ownsRow base e size v n xs) (f : Fr (fun _ => False) w w') : w'.ownsRow base e size v n xs := row_fr h f (fun _ _ _ h => h)
/-- A row that lies above a disk's blocks stays while the disk turns. -/
theorem row_foot {w w' : World} {base : Nat} {e : TypeId} {size : Nat} {v : Value} {n : Nat} {xs : List Value} (h : w.ownsRow base e size v n xs) {bd bc ba : Nat} (f : Fr (foot bd bc ba) w w') (hn : ∀ k, base ≤ k → ¬ foot bd bc ba k) : w'.ownsRow base e size v n xs := row_fr h f (fun k hk _ => hn k hk)
end Go.Proofs.Ytmbkmfpnjpkakaa
