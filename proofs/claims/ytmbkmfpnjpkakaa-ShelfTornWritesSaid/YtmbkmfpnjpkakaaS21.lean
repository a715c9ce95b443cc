/- Plain facts: what a torn write leaves on a new shelf. -/
import Derived.Test.YtmbkmfpnjpkakaaS20
namespace Go.Shf0
open Go.Dsk0

theorem newS_bay {c : Cfg} (_ : valid c) {k : Nat} (h : k < (newS c).bays.length) : (newS c).bays[k]? = some ⟨new (sectors c), 1⟩ := by
  unfold newS at h ⊢
  simp only [List.length_replicate] at h
  rw [List.getElem?_replicate, if_pos h]
theorem newS_state {c : Cfg} (hv : valid c) {d : Int} (h : state (newS c) d ≠ 0) : state (newS c) d = 1 := by
  obtain ⟨h0, h1⟩ := state_ne h
  unfold state
  rw [if_pos ⟨h0, h1⟩, newS_bay hv (by omega)]; rfl
theorem newS_ok {c : Cfg} (hv : valid c) (hs : sectors c ≤ 65536) : Ok (newS c) := by
  have hv' := hv
  obtain ⟨⟨d1, d2⟩, -, ⟨r1, r2⟩, -, ⟨l1, l2⟩, ⟨m1, m2⟩, -⟩ := hv
  have hsp : 0 ≤ sectors c := by unfold sectors; omega
  have hall : ∀ b ∈ (newS c).bays, b = ⟨new (sectors c), 1⟩ := fun b hb => (List.mem_replicate.1 hb).2
  have hnl : ((new (sectors c)).length : Int) = sectors c := by simp [new]; omega
  exact ⟨hv', hs, by simp [newS], fun b hb => by rw [hall b hb]; exact Dsk0.Ok.new _, fun b hb _ => by rw [hall b hb]; exact hnl, fun b hb => .inl (by rw [hall b hb]), fun D hD => by cases hD⟩
theorem new_pend (n : Int) : pend (new n) = [] := by
  apply List.eq_nil_iff_forall_not_mem.2
  intro x hx
  obtain ⟨s, l, hs, hl⟩ := pend_mem.1 hx
  unfold new at hs
  rw [List.getElem?_replicate] at hs
  split at hs
  · injection hs with hs; subst hs; cases hl
  · cases hs

theorem turn_other (S : Shelf) {k j : Nat} (F : Dsk → Dsk) (h : k ≠ j) : (turnD S k F).bays[j]? = S.bays[j]? := by
  unfold turnD
  simp only [List.getElem?_modify]
  cases S.bays[j]? <;> simp [h]

/-- A sector of a new shelf written and flushed, written again, and the power cut. -/
theorem torn {c : Cfg} (hv : valid c) (hs : sectors c ≤ 65536) {p : Place} (ht : there (newS c) p) {a b : List UInt8} (ha : a.length = 64) (hb : b.length = 64) (pick : Int) :
    (write (newS c) p a).1 = 0 ∧ (flush (write (newS c) p a).2 p.disk).1 = 0 ∧ (write (flush (write (newS c) p a).2 p.disk).2 p b).1 = 0 ∧
      read (mount (write (flush (write (newS c) p a).2 p.disk).2 p b).2 [pick]) p = (b.take (clamp pick) ++ a.drop (clamp pick), 0) := by
  have hst := newS_state hv ht.1
  have hok := newS_ok hv hs
  obtain ⟨hn0, hn1⟩ := number_bd hok ht
  obtain ⟨hd0, hd1⟩ := there_disk ht
  obtain ⟨num, hnum⟩ : ∃ num : Nat, number (newS c) p = num := ⟨(number (newS c) p).toNat, by omega⟩
  obtain ⟨k, hk⟩ : ∃ k : Nat, p.disk = k := ⟨p.disk.toNat, by omega⟩
  have hkl : k < (newS c).bays.length := by omega
  have hcfg : (newS c).cfg = c := rfl
  obtain ⟨N, hN⟩ : ∃ N : Nat, sectors c = N := ⟨(sectors c).toNat, by rw [hcfg] at hn1; omega⟩
  rw [hcfg] at hn1
  have hbay : bayD (newS c) k = new N := by unfold bayD; rw [newS_bay hv hkl, ← hN]; rfl
  obtain ⟨t1, t2, t3, t4⟩ := Dsk0.torn (N := N) (num := num) (by omega) (by omega) ha hb pick
  -- the first write
  have e1 : write (newS c) p a = (0, turnD (newS c) k fun D => (Dsk0.write D num a).2) := by
    unfold write
    rw [if_pos ⟨ht, ha⟩, step_plain rfl rfl hst, hnum, hk, Int.toNat_natCast]
  rw [e1]
  simp only
  obtain ⟨S1, hS1⟩ : ∃ S1, S1 = turnD (newS c) k fun D => (Dsk0.write D num a).2 := ⟨_, rfl⟩
  have hl1 : S1.bays.length = (newS c).bays.length := by rw [hS1]; simp [turnD]
  have s1 : ∀ d, state S1 d = state (newS c) d := fun d => by rw [hS1, state_turn]
  have o1 : S1.off = false ∧ S1.fused = false := by rw [hS1]; exact ⟨rfl, rfl⟩
  have b1 : bayD S1 k = (Dsk0.write (new N) num a).2 := by rw [hS1, bayD_turn hkl, hbay]
  rw [← hS1]
  -- the flush
  have e2 : flush S1 p.disk = (0, turnD S1 k Dsk0.flush) := by
    unfold flush
    rw [if_neg (by rw [s1, hst]; decide), step_plain o1.1 o1.2 (by rw [s1]; exact hst), hk, Int.toNat_natCast]
  rw [e2]
  simp only
  obtain ⟨S2, hS2⟩ : ∃ S2, S2 = turnD S1 k Dsk0.flush := ⟨_, rfl⟩
  have hl2 : S2.bays.length = (newS c).bays.length := by rw [hS2, ← hl1]; simp [turnD]
  have s2 : ∀ d, state S2 d = state (newS c) d := fun d => by rw [hS2, state_turn, s1]
  have o2 : S2.off = false ∧ S2.fused = false := by rw [hS2]; exact o1
  have b2 : bayD S2 k = Dsk0.flush (Dsk0.write (new N) num a).2 := by rw [hS2, bayD_turn (by omega), b1]
  have th2 : there S2 p := by rw [hS2, there_turn, hS1, there_turn]; exact ht
  have nu2 : number S2 p = num := by rw [hS2, number_turn, hS1, number_turn, hnum]
  rw [← hS2]
  -- the second write
  have e3 : write S2 p b = (0, turnD S2 k fun D => (Dsk0.write D num b).2) := by
    unfold write
    rw [if_pos ⟨th2, hb⟩, step_plain o2.1 o2.2 (by rw [s2]; exact hst), nu2, hk, Int.toNat_natCast]
  rw [e3]
  simp only
  obtain ⟨S3, hS3⟩ : ∃ S3, S3 = turnD S2 k fun D => (Dsk0.write D num b).2 := ⟨_, rfl⟩
  rw [← hS3]
  have hl3 : S3.bays.length = (newS c).bays.length := by rw [hS3, ← hl2]; simp [turnD]
  have s3 : ∀ d, state S3 d = state (newS c) d := fun d => by rw [hS3, state_turn, s2]
  have b3 : bayD S3 k = (Dsk0.write (Dsk0.flush (Dsk0.write (new N) num a).2) num b).2 := by rw [hS3, bayD_turn (by omega), b2]
  have th3 : there S3 p := by rw [hS3, there_turn]; exact th2
  have nu3 : number S3 p = num := by rw [hS3, number_turn, nu2]
  refine ⟨by trivial, by trivial, by trivial, ?_⟩
  -- the cut
  obtain ⟨x3, hx3⟩ : ∃ x3, S3.bays[k]? = some x3 := ⟨_, List.getElem?_eq_getElem (by omega)⟩
  have hx3D : x3.D = (Dsk0.write (Dsk0.flush (Dsk0.write (new N) num a).2) num b).2 := by
    have := b3
    unfold bayD at this
    rw [hx3] at this
    exact this
  have hx3s : x3.st = 1 := by
    have := s3 k
    rw [← hk, hst] at this
    unfold state at this
    rw [if_pos ⟨hd0, by omega⟩, hk, Int.toNat_natCast, hx3] at this
    exact this
  have hother : ∀ j x, j < k → S3.bays[j]? = some x → pend x.D = [] := fun j x hj hx => by
    have h0 : S3.bays[j]? = (newS c).bays[j]? := by
      rw [hS3, turn_other S2 _ (by omega), hS2, turn_other S1 _ (by omega), hS1, turn_other (newS c) _ (by omega)]
    rw [h0] at hx
    have hjl := (List.getElem?_eq_some_iff.1 hx).1
    rw [newS_bay hv hjl] at hx
    have hxD : x.D = new (sectors c) := (congrArg Bay.D (Option.some.inj hx)).symm
    rw [hxD]
    exact new_pend (sectors c)
  have hcut := cutBays_get S3.bays k [pick] x3 hx3 hx3s hother
  have hbm : bayD (mount S3 [pick]) k = cut x3.D [pick] := by
    unfold bayD mount
    simp only
    rw [hcut, hx3D, t3]
    simp
  have thm : there (mount S3 [pick]) p := by rw [there_mount]; exact th3
  have acc : access (mount S3 [pick]) p.disk = 0 := by
    unfold access
    rw [state_mount, s3, hst]
    rfl
  unfold read
  rw [if_pos thm, if_neg (by rw [acc]; simp), hk, Int.toNat_natCast, hbm, number_mount, nu3, hx3D]
  exact t4

/-- A write outside the shelf. -/
theorem write_out {S : Shelf} {p : Place} (h : ¬ there S p) (l : List UInt8) : write S p l = (1, S) := by
  unfold write; rw [if_neg fun h' => h h'.1]
end Go.Shf0
