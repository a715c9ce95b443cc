/- Plain facts for the law on what lasts: a disk after Flush and Cut, writes on it, and a power failure. -/
import Derived.Test.YtmbkmfpnjpkakaaR4
namespace Go.Dsk0

theorem settle_in (ps : List Int) : ∀ (l : List Nat) (k : Nat) (D : Dsk) (i : Nat), l.Nodup → i ∈ l → ∃ m, m ≤ 64 ∧ (settle ps k l D)[i]? = (D[i]?).map fun s => cutOne s m
  | [], _, _, _, _, h => by simp at h
  | x :: l, k, D, i, hn, h => by
    rw [settle]
    have hn' := List.nodup_cons.1 hn
    by_cases hx : x = i
    · subst hx
      refine ⟨clamp ((ps[k]?).getD 0), clamp_le _, ?_⟩
      rw [settle_get_out _ _ _ _ _ hn'.1, List.getElem?_modify]
      simp
    · have hi : i ∈ l := by
        rcases List.mem_cons.1 h with h | h
        · exact absurd h.symm hx
        · exact h
      obtain ⟨m, hm, he⟩ := settle_in ps l (k + 1) (D.modify x fun s => cutOne s (clamp ((ps[k]?).getD 0))) i hn'.2 hi
      refine ⟨m, hm, ?_⟩
      rw [he, List.getElem?_modify]
      simp [hx]

/-- A sector behind a power failure. -/
theorem cut_get (D : Dsk) (ps : List Int) (i : Nat) (s : Sec) (h : D[i]? = some s) : ∃ m, m ≤ 64 ∧ (cut D ps)[i]? = some { cutOne s m with flt := none } := by
  have hu : (cut D ps)[i]? = ((settle ps 0 (pend D) D)[i]?).map fun s => { s with flt := none } := by simp [cut, unarm]
  by_cases hp : i ∈ pend D
  · obtain ⟨m, hm, he⟩ := settle_in ps (pend D) 0 D i (pend_nodup D) hp
    exact ⟨m, hm, by rw [hu, he, h]; rfl⟩
  · refine ⟨0, Nat.zero_le _, ?_⟩
    rw [hu, settle_get_out _ _ _ _ _ hp, h]
    have hc : s.cac = none := by
      cases hq : s.cac with
      | none => rfl
      | some c => exact absurd (pend_mem.2 ⟨s, c, h, hq⟩) hp
    have : cutOne s 0 = s := by unfold cutOne; rw [hc]
    simp [this]

theorem cutOne_cac (s : Sec) (m : Nat) : (cutOne s m).cac = none := by
  unfold cutOne
  cases hq : s.cac with
  | none => simpa using hq
  | some c => rfl
theorem cut_cac (D : Dsk) (ps : List Int) : ∀ s ∈ cut D ps, s.cac = none ∧ s.flt = none := by
  intro s hs
  obtain ⟨i, hi⟩ := List.mem_iff_getElem?.1 hs
  have hl : i < D.length := by
    have := (List.getElem?_eq_some_iff.1 hi).1
    simpa [cut, unarm, settle_length] using this
  obtain ⟨m, _, he⟩ := cut_get D ps i D[i] (List.getElem?_eq_getElem hl)
  rw [hi] at he
  injection he with he
  subst he
  exact ⟨cutOne_cac _ _, rfl⟩
theorem cut_length (D : Dsk) (ps : List Int) : (cut D ps).length = D.length := by simp [cut, unarm, settle_length]
theorem pend_nil {D : Dsk} (h : ∀ s ∈ D, s.cac = none) : pend D = [] := by
  apply List.eq_nil_iff_forall_not_mem.2
  intro i hi
  obtain ⟨s, l, hs, hl⟩ := pend_mem.1 hi
  rw [h s (List.mem_of_getElem? hs)] at hl
  cases hl

/-- The disk while writes go on, and which sectors have been written; old: the contents before. -/
structure LInv (n : Nat) (old : List (List UInt8)) (D : Dsk) (W : Int → Bool) : Prop where
  len : D.length = n
  ok : Ok D
  flt : ∀ s ∈ D, s.flt = none
  dur : ∀ (i : Nat) (s : Sec), D[i]? = some s → old[i]? = some s.dur ∧ (W i = false → s.cac = none)

def updB (W : Int → Bool) (i : Int) : Int → Bool := fun k => if k = i then true else W k

theorem LInv.start {n : Nat} {D : Dsk} (hl : D.length = n) (hk : Ok D) (h : ∀ s ∈ D, s.cac = none ∧ s.flt = none) : LInv n (D.map cont) D (fun _ => false) := by
  refine ⟨hl, hk, fun s hs => (h s hs).2, fun i s hs => ?_⟩
  have hc := (h s (List.mem_of_getElem? hs)).1
  refine ⟨?_, fun _ => hc⟩
  rw [List.getElem?_map, hs]
  simp [cont, hc]

theorem LInv.write {n : Nat} {old : List (List UInt8)} {D : Dsk} {W : Int → Bool} (h : LInv n old D W) {i : Nat} (hi : i < n) {x : List UInt8} (hx : x.length = 64) : write D i x = (0, setc (clr D i) i x) ∧ LInv n old (setc (clr D i) i x) (updB W i) := by
  have hiD : i < D.length := by rw [h.len]; exact hi
  have hg : goal D i = i := by
    unfold goal
    rw [Int.toNat_natCast]
    cases hs : D[i]? with
    | none => rfl
    | some s => simp [h.flt s (List.mem_of_getElem? hs)]
  refine ⟨write_plain hiD hx hg, by simp [setc, clr, h.len], (h.ok.clr _).setc _ _ hx, fun s hs => ?_, fun k s hs => ?_⟩
  · obtain hs | ⟨t, ht, rfl⟩ := mem_modify hs
    · obtain hs | ⟨t, ht, rfl⟩ := mem_modify hs
      · exact h.flt s hs
      · rfl
    · obtain hs | ⟨u, hu, rfl⟩ := mem_modify ht
      · exact h.flt t hs
      · rfl
  · simp only [setc, clr, List.getElem?_modify] at hs
    unfold updB
    cases hq : D[k]? with
    | none => simp [hq] at hs
    | some t =>
      obtain ⟨h1, h2⟩ := h.dur k t hq
      by_cases hik : i = k
      · subst hik
        simp [hq] at hs
        subst hs
        exact ⟨h1, fun hf => by simp at hf⟩
      · simp [hq, hik] at hs
        subst hs
        refine ⟨h1, fun hf => h2 ?_⟩
        rw [if_neg (by omega)] at hf
        exact hf

/-- What a sector reads as behind the power failure: a prefix of the new content, the rest of the old one. -/
theorem LInv.end_ {n : Nat} {old : List (List UInt8)} {D : Dsk} {W : Int → Bool} (h : LInv n old D W) (ps : List Int) {i : Nat} (hi : i < n) :
    ∃ s f o m, ((cut D ps).map cont)[i]? = some s ∧ (D.map cont)[i]? = some f ∧ old[i]? = some o ∧ s.length = 64 ∧ f.length = 64 ∧ o.length = 64 ∧ m ≤ 64 ∧ s = f.take m ++ o.drop m ∧ (W i = false → s = o) := by
  have hiD : i < D.length := by rw [h.len]; exact hi
  have hs : D[i]? = some D[i] := List.getElem?_eq_getElem hiD
  obtain ⟨ho, hw⟩ := h.dur i _ hs
  obtain ⟨m, hm, he⟩ := cut_get D ps i _ hs
  have hmem := List.getElem_mem hiD
  have hd64 := h.ok.dur _ hmem
  cases hq : D[i].cac with
  | none =>
    have hc : cutOne D[i] m = D[i] := by unfold cutOne; rw [hq]
    refine ⟨D[i].dur, D[i].dur, D[i].dur, 0, ?_, ?_, ho, hd64, hd64, hd64, Nat.zero_le _, by simp, fun _ => rfl⟩
    · rw [List.getElem?_map, he, hc]; simp [cont, hq]
    · rw [List.getElem?_map, hs]; simp [cont, hq]
  | some c =>
    have hc64 := h.ok.cac _ hmem c hq
    refine ⟨c.take m ++ D[i].dur.drop m, c, D[i].dur, m, ?_, ?_, ho, ?_, hc64, hd64, hm, rfl, fun hf => ?_⟩
    · rw [List.getElem?_map, he]
      simp [cont, cutOne, hq]
    · rw [List.getElem?_map, hs]; simp [cont, hq]
    · simp [hc64, hd64]; omega
    · have := hw hf
      rw [hq] at this
      cases this
end Go.Dsk0
