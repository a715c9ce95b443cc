/- The plain disk: each operation keeps it well formed. No program is named. -/
import Derived.Test.YtmbkmfpnjpkakaaP0
namespace Go.Dsk0

theorem mem_modify {D : Dsk} {i : Nat} {f : Sec → Sec} {s : Sec} (h : s ∈ D.modify i f) : s ∈ D ∨ ∃ t ∈ D, s = f t := by
  obtain ⟨j, hj⟩ := List.mem_iff_getElem?.1 h
  rw [List.getElem?_modify] at hj
  cases hd : D[j]? with
  | none => simp [hd] at hj
  | some t =>
    have ht : t ∈ D := List.mem_of_getElem? hd
    by_cases hij : i = j
    · simp [hd, hij] at hj; exact .inr ⟨t, ht, hj.symm⟩
    · simp [hd, hij] at hj; exact .inl (hj ▸ ht)

theorem Ok.modify {D : Dsk} (h : Ok D) (i : Nat) (f : Sec → Sec) (hd : ∀ s ∈ D, (f s).dur.length = 64) (hc : ∀ s ∈ D, ∀ c, (f s).cac = some c → c.length = 64)
    (hf : ∀ s ∈ D, ∀ t, (f s).flt = some t → t = -1 ∨ (0 ≤ t ∧ t < D.length)) : Ok (D.modify i f) := by
  refine ⟨fun s hs => ?_, fun s hs => ?_, fun s hs t ht => ?_, by simpa using h.len⟩
  · rcases mem_modify hs with hs | ⟨t, ht, rfl⟩
    · exact h.dur s hs
    · exact hd t ht
  · rcases mem_modify hs with hs | ⟨t, ht, rfl⟩
    · exact h.cac s hs
    · exact hc t ht
  · rw [List.length_modify]
    rcases mem_modify hs with hs | ⟨u, hu, rfl⟩
    · exact h.flt s hs t ht
    · exact hf u hu t ht

theorem Ok.clr {D : Dsk} (h : Ok D) (i : Nat) : Ok (clr D i) := h.modify i _ h.dur h.cac (fun s _ t ht => by cases ht)
theorem Ok.setc {D : Dsk} (h : Ok D) (i : Nat) (l : List UInt8) (hl : l.length = 64) : Ok (setc D i l) := h.modify i _ h.dur (fun s _ c hc => by cases hc; exact hl) h.flt
theorem Ok.arm {D : Dsk} (h : Ok D) (i : Nat) (t : Int) (ht : t = -1 ∨ (0 ≤ t ∧ t < D.length)) : Ok (arm D i t) := h.modify i _ h.dur h.cac (fun s _ u hu => by cases hu; exact ht)
theorem flip_length (l : List UInt8) (b : Nat) : (flip l b).length = l.length := by simp [flip]
theorem Ok.rotD {D : Dsk} (h : Ok D) (i b : Nat) : Ok (rotD D i b) := h.modify i _ (fun s hs => by simp [flip_length, h.dur s hs]) h.cac h.flt
theorem Ok.rotC {D : Dsk} (h : Ok D) (i b : Nat) : Ok (rotC D i b) := h.modify i _ h.dur (fun s hs c hc => by
  cases hq : s.cac with
  | none => simp [hq] at hc
  | some c' => simp [hq] at hc; subst hc; simp [flip_length, h.cac s hs c' hq]) h.flt
theorem cont_length {D : Dsk} (h : Ok D) {s : Sec} (hs : s ∈ D) : (cont s).length = 64 := by
  unfold cont
  cases hq : s.cac with
  | none => simpa using h.dur s hs
  | some c => simpa using h.cac s hs c hq
theorem Ok.flush {D : Dsk} (h : Ok D) : Ok (flush D) := by
  refine ⟨fun s hs => ?_, fun s hs c hc => ?_, fun s hs t ht => ?_, by simpa [Dsk0.flush] using h.len⟩
  · obtain ⟨t, ht, rfl⟩ := List.mem_map.1 hs; exact cont_length h ht
  · obtain ⟨t, ht, rfl⟩ := List.mem_map.1 hs; cases hc
  · obtain ⟨u, hu, rfl⟩ := List.mem_map.1 hs; simpa [Dsk0.flush] using h.flt u hu t ht
theorem clamp_le (p : Int) : clamp p ≤ 64 := by unfold clamp; omega
theorem Ok.cutOne {D : Dsk} (h : Ok D) (i : Nat) (n : Nat) : Ok (D.modify i fun s => cutOne s n) := by
  refine h.modify i _ (fun s hs => ?_) (fun s hs c hc => ?_) (fun s hs t ht => ?_)
  · unfold Dsk0.cutOne
    cases hq : s.cac with
    | none => simpa using h.dur s hs
    | some c =>
      have h1 := h.cac s hs c hq
      have h2 := h.dur s hs
      simp [h1, h2]; omega
  · unfold Dsk0.cutOne at hc
    cases hq : s.cac with
    | none => simp [hq] at hc
    | some c' => simp [hq] at hc
  · unfold Dsk0.cutOne at ht
    cases hq : s.cac with
    | none => simp [hq] at ht; exact h.flt s hs t ht
    | some c' => simp [hq] at ht; exact h.flt s hs t ht
theorem Ok.settle (ps : List Int) : ∀ (l : List Nat) (k : Nat) (D : Dsk), Ok D → Ok (settle ps k l D)
  | [], _, _, h => h
  | i :: l, k, _, h => Ok.settle ps l (k + 1) _ (h.cutOne i _)
theorem settle_length (ps : List Int) : ∀ (l : List Nat) (k : Nat) (D : Dsk), (settle ps k l D).length = D.length
  | [], _, _ => rfl
  | _ :: l, _, _ => by rw [settle, settle_length ps l]; simp
theorem Ok.unarm {D : Dsk} (h : Ok D) : Ok (unarm D) := by
  refine ⟨fun s hs => ?_, fun s hs c hc => ?_, fun s hs t ht => ?_, by simpa [Dsk0.unarm] using h.len⟩
  · obtain ⟨t, ht, rfl⟩ := List.mem_map.1 hs; exact h.dur t ht
  · obtain ⟨t, ht, rfl⟩ := List.mem_map.1 hs; exact h.cac t ht c hc
  · obtain ⟨u, hu, rfl⟩ := List.mem_map.1 hs; cases ht
theorem Ok.cut {D : Dsk} (h : Ok D) (ps : List Int) : Ok (cut D ps) := (Ok.settle ps _ 0 D h).unarm
theorem Ok.new (n : Int) : Ok (new n) := by
  refine ⟨fun s hs => ?_, fun s hs c hc => ?_, fun s hs t ht => ?_, by simp [Dsk0.new]; omega⟩
  · obtain ⟨_, rfl⟩ := List.mem_replicate.1 hs; simp [zeros]
  · obtain ⟨_, rfl⟩ := List.mem_replicate.1 hs; cases hc
  · obtain ⟨_, rfl⟩ := List.mem_replicate.1 hs; cases ht

theorem has_iff {D : Dsk} {i : Int} : has D i = true ↔ 0 ≤ i ∧ i < D.length := by simp [has]

theorem goal_ok {D : Dsk} (h : Ok D) {i : Int} (hi : has D i = true) : goal D i = -1 ∨ (0 ≤ goal D i ∧ goal D i < D.length) := by
  unfold goal
  cases hs : D[i.toNat]? with
  | none => right; simpa [hs] using has_iff.1 hi
  | some s =>
    cases hf : s.flt with
    | none => right; simpa [hs, hf] using has_iff.1 hi
    | some t => simpa [hs, hf] using h.flt s (List.mem_of_getElem? hs) t hf

theorem Ok.write {D : Dsk} (h : Ok D) (i : Int) (l : List UInt8) : Ok (write D i l).2 := by
  unfold Dsk0.write
  split
  · rename_i hc
    split
    · exact h.clr _
    · exact (h.clr _).setc _ _ hc.2
  · exact h
theorem Ok.lose {D : Dsk} (h : Ok D) (i : Int) : Ok (lose D i).2 := by
  unfold Dsk0.lose; split
  · exact h.arm _ _ (.inl rfl)
  · exact h
theorem Ok.misdirect {D : Dsk} (h : Ok D) (i t : Int) : Ok (misdirect D i t).2 := by
  unfold Dsk0.misdirect; split
  · rename_i hc; exact h.arm _ _ (.inr (has_iff.1 hc.2))
  · exact h
theorem Ok.rot {D : Dsk} (h : Ok D) (i b : Int) : Ok (rot D i b).2 := by
  unfold Dsk0.rot; split
  · exact (h.rotD _ _).rotC _ _
  · exact h

end Go.Dsk0
