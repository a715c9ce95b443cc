/- Plain facts for the law on reading back: writes and flushes alone, and what was last written to each sector. -/
import Derived.Test.YtmbkmfpnjpkakaaR4
namespace Go.Proofs.Ytmbkmfpnjpkakaa
open Go.ChangeShapes Go.WideShapes Go.ChangeAt Go.RowKit Go.Im Go.Dsk0

abbrev LastW := Int → Option (List UInt8)
def lastF (L : LastW) : Int → Option Value := fun k => (L k).map strOf
def updW (L : LastW) (i : Int) (x : List UInt8) : LastW := fun k => if k = i then some x else L k
theorem lastF_upd (L : LastW) (i : Int) (x : List UInt8) : lastF (updW L i x) = upd (lastF L) i (some (strOf x)) := by
  funext k
  unfold lastF updW upd
  split <;> rfl

/-- Every sector has the content that was last written to it; no fault is armed. -/
structure RInv (n : Nat) (D : Dsk) (L : LastW) : Prop where
  len : D.length = n
  ok : Ok D
  flt : ∀ s ∈ D, s.flt = none
  last : ∀ i : Nat, i < n → (conts D)[i]? = some ((L i).getD (rp 0))

theorem RInv.new {n : Nat} (h : n ≤ 65536) : RInv n (new n) (fun _ => none) := by
  refine ⟨new_len h, Ok.new _, fun s hs => ?_, fun i hi => ?_⟩
  · obtain ⟨_, rfl⟩ := List.mem_replicate.1 hs; rfl
  · unfold conts Dsk0.new
    rw [List.getElem?_map, List.getElem?_replicate, if_pos (by omega)]
    rfl

theorem RInv.goal {n : Nat} {D : Dsk} {L : LastW} (h : RInv n D L) {i : Nat} : Dsk0.goal D i = i := by
  unfold Dsk0.goal
  rw [Int.toNat_natCast]
  cases hs : D[i]? with
  | none => rfl
  | some s => simp [h.flt s (List.mem_of_getElem? hs)]

theorem RInv.write {n : Nat} {D : Dsk} {L : LastW} (h : RInv n D L) {i : Nat} (hi : i < n) {x : List UInt8} (hx : x.length = 64) : RInv n (Dsk0.write D i x).2 (updW L i x) := by
  have hiD : i < D.length := by rw [h.len]; exact hi
  rw [Dsk0.write_plain hiD hx h.goal]
  refine ⟨by simp [setc, clr, h.len], (h.ok.clr _).setc _ _ hx, fun s hs => ?_, fun k hk => ?_⟩
  · obtain hs | ⟨t, ht, rfl⟩ := mem_modify hs
    · obtain hs | ⟨t, ht, rfl⟩ := mem_modify hs
      · exact h.flt s hs
      · rfl
    · obtain hs | ⟨u, hu, rfl⟩ := mem_modify ht
      · exact h.flt t hs
      · rfl
  · simp only
    rw [conts_setc, conts_clr, List.getElem?_set]
    unfold updW
    by_cases hik : i = k
    · subst hik
      rw [if_pos rfl, if_pos (by rw [conts_length]; exact hiD), if_pos rfl]; rfl
    · rw [if_neg hik, if_neg (by omega)]
      exact h.last k hk

theorem RInv.flush {n : Nat} {D : Dsk} {L : LastW} (h : RInv n D L) : RInv n (Dsk0.flush D) L := by
  refine ⟨by simp [Dsk0.flush, h.len], h.ok.flush, fun s hs => ?_, fun k hk => ?_⟩
  · obtain ⟨t, ht, rfl⟩ := List.mem_map.1 hs
    exact h.flt t ht
  · rw [conts_flush]; exact h.last k hk

theorem mt63 : Try.prog.underlying 63 = some (.map 3 9) := by kernel_rfl
theorem zero9 (w : World) : (zeroValue 9).run Try.prog w = .ok (.string ⟨#[]⟩) w := by kernel_rfl
end Go.Proofs.Ytmbkmfpnjpkakaa
