/- Plain facts: what a torn write leaves. -/
import Derived.Test.YtmbkmfpnjpkakaaS19
namespace Go.Dsk0

theorem only_mem {l : List Nat} {n : Nat} (hd : l.Nodup) (h : ∀ x, x ∈ l ↔ x = n) : l = [n] := by
  match l, hd with
  | [], _ => exact absurd ((h n).2 rfl) (by simp)
  | x :: t, hd =>
    have hx : x = n := (h x).1 (by simp)
    subst hx
    obtain ⟨h1, -⟩ := List.nodup_cons.1 hd
    cases t with
    | nil => rfl
    | cons y t =>
      have hy : y = x := (h y).1 (by simp)
      exact absurd (by simp [hy]) h1

/-- A write where no fault is armed. -/
theorem write_free {D : Dsk} {i : Nat} {s : Sec} {l : List UInt8} (hs : D[i]? = some s) (hf : s.flt = none) (hl : l.length = 64) : write D i l = (0, setc (clr D i) i l) := by
  have hi := (List.getElem?_eq_some_iff.1 hs).1
  have hg : goal D i = i := by unfold goal; rw [Int.toNat_natCast, hs]; simp [hf]
  unfold write
  rw [if_pos ⟨has_iff.2 ⟨by omega, by omega⟩, hl⟩, hg, if_neg (by omega), Int.toNat_natCast]
theorem setc_get {D : Dsk} {i : Nat} {s : Sec} {l : List UInt8} (hs : D[i]? = some s) (k : Nat) : (setc (clr D i) i l)[k]? = if i = k then some ⟨s.dur, some l, none⟩ else D[k]? := by
  unfold setc clr
  rw [List.getElem?_modify, List.getElem?_modify]
  by_cases h : i = k
  · subst h; simp [hs]
  · cases D[k]? <;> simp [h]

/-- A sector written and flushed, written again, and the power cut. -/
theorem torn {N num : Nat} (h : num < N) (hN : N ≤ 65536) {a b : List UInt8} (ha : a.length = 64) (hb : b.length = 64) (pick : Int) :
    (write (new N) num a).1 = 0 ∧ (write (flush (write (new N) num a).2) num b).1 = 0 ∧ pend (write (flush (write (new N) num a).2) num b).2 = [num] ∧
      read (cut (write (flush (write (new N) num a).2) num b).2 [pick]) num = (b.take (clamp pick) ++ a.drop (clamp pick), 0) := by
  have hn : new (N : Int) = List.replicate N ⟨zeros, none, none⟩ := by unfold new; congr 1; omega
  have h0 : (new (N : Int))[num]? = some ⟨zeros, none, none⟩ := by rw [hn, List.getElem?_replicate, if_pos h]
  have e1 := write_free h0 rfl ha
  rw [e1]
  have h1 : ∀ k, (flush (setc (clr (new N) num) num a))[k]? = if num = k then some ⟨a, none, none⟩ else if k < N then some ⟨zeros, none, none⟩ else none := fun k => by
    unfold flush
    rw [List.getElem?_map, setc_get h0]
    by_cases hk : num = k
    · simp [hk, cont]
    · rw [if_neg hk, if_neg hk, hn, List.getElem?_replicate]
      split <;> simp [cont]
  have h2 : (flush (setc (clr (new N) num) num a))[num]? = some ⟨a, none, none⟩ := by rw [h1, if_pos rfl]
  have e2 := write_free h2 rfl hb
  simp only
  rw [e2]
  have h3 : ∀ k, (setc (clr (flush (setc (clr (new N) num) num a)) num) num b)[k]? = if num = k then some ⟨a, some b, none⟩ else if k < N then some ⟨zeros, none, none⟩ else none := fun k => by
    rw [setc_get h2]
    by_cases hk : num = k
    · simp [hk]
    · rw [if_neg hk, if_neg hk, h1, if_neg hk]
  have hp : pend (setc (clr (flush (setc (clr (new N) num) num a)) num) num b) = [num] := by
    refine only_mem (pend_nodup _) fun x => ?_
    rw [pend_mem]
    constructor
    · rintro ⟨s, l, hs, hl⟩
      rw [h3] at hs
      by_cases hx : num = x
      · exact hx.symm
      · rw [if_neg hx] at hs
        split at hs
        · injection hs with hs; subst hs; cases hl
        · cases hs
    · rintro rfl
      exact ⟨_, b, by rw [h3, if_pos rfl], rfl⟩
  refine ⟨by trivial, by trivial, hp, ?_⟩
  have hc : (cut (setc (clr (flush (setc (clr (new N) num) num a)) num) num b) [pick])[num]? = some ⟨b.take (clamp pick) ++ a.drop (clamp pick), none, none⟩ := by
    unfold cut unarm
    rw [hp, List.getElem?_map]
    unfold settle settle
    rw [List.getElem?_modify, h3, if_pos rfl]
    simp [cutOne]
  have hlt := (List.getElem?_eq_some_iff.1 hc).1
  unfold read
  rw [if_pos (has_iff.2 ⟨by omega, Int.ofNat_lt.2 hlt⟩), Int.toNat_natCast, hc]
  simp [cont]
end Go.Dsk0
namespace Go.Shf0
open Go.Dsk0

theorem state_turn (S : Shelf) (k : Nat) (F : Dsk → Dsk) (d : Int) : state (turnD S k F) d = state S d := by
  unfold state turnD
  simp only [List.length_modify, List.getElem?_modify]
  split
  · cases S.bays[d.toNat]? with
    | none => rfl
    | some b => by_cases h : k = d.toNat <;> simp [h]
  · rfl
theorem bayD_turn {S : Shelf} {k : Nat} (h : k < S.bays.length) (F : Dsk → Dsk) : bayD (turnD S k F) k = F (bayD S k) := by
  unfold bayD turnD
  simp only [List.getElem?_modify]
  rw [List.getElem?_eq_getElem h]
  simp
theorem there_turn (S : Shelf) (k : Nat) (F : Dsk → Dsk) (p : Place) : there (turnD S k F) p ↔ there S p := by
  unfold there; rw [state_turn]; rfl
theorem number_turn (S : Shelf) (k : Nat) (F : Dsk → Dsk) (p : Place) : number (turnD S k F) p = number S p := by
  unfold number
  by_cases h : there S p
  · rw [if_pos h, if_pos ((there_turn S k F p).2 h)]; rfl
  · rw [if_neg h, if_neg fun h' => h ((there_turn S k F p).1 h')]
/-- A step where the power is on, no fuse burns and the bay is in service. -/
theorem step_plain {S : Shelf} (ho : S.off = false) (hf : S.fused = false) {d : Int} (hs : state S d = 1) (F : Dsk → Dsk) : step S d F = (0, turnD S d.toNat F) := by
  have ha : access S d = 0 := by unfold access; rw [ho, hs]; simp
  unfold step
  rw [ha, hf]; simp
theorem cutBays_len : ∀ (l : List Bay) (ps : List Int), (cutBays l ps).length = l.length
  | [], _ => rfl
  | b :: l, ps => by
    unfold cutBays
    split <;> simp [cutBays_len l]
theorem cutBays_get : ∀ (l : List Bay) (k : Nat) (ps : List Int) (b : Bay), l[k]? = some b → b.st = 1 → (∀ j x, j < k → l[j]? = some x → pend x.D = []) → (cutBays l ps)[k]? = some { b with D := cut b.D (ps.take (pend b.D).length) }
  | [], _, _, _, h, _, _ => by simp at h
  | x :: l, 0, ps, b, h, hs, _ => by
    have e : x = b := by simpa using h
    subst e
    unfold cutBays
    rw [if_pos hs]; rfl
  | x :: l, k + 1, ps, b, h, hs, hp => by
    have h' : l[k]? = some b := by simpa using h
    have hx : pend x.D = [] := hp 0 x (by omega) rfl
    have hrest : ∀ j y, j < k → l[j]? = some y → pend y.D = [] := fun j y hj hy => hp (j + 1) y (by omega) (by simpa using hy)
    unfold cutBays
    split
    · rw [List.getElem?_cons_succ, hx]
      simpa using cutBays_get l k ps b h' hs hrest
    · rw [List.getElem?_cons_succ]
      exact cutBays_get l k ps b h' hs hrest
theorem cutBays_st : ∀ (l : List Bay) (ps : List Int), (cutBays l ps).map (·.st) = l.map (·.st)
  | [], _ => rfl
  | b :: l, ps => by
    unfold cutBays
    split <;> simp [cutBays_st l]
theorem state_mount (S : Shelf) (ps : List Int) (d : Int) : state (mount S ps) d = state S d := by
  have h : ∀ i : Nat, ((cutBays S.bays ps)[i]?).map (fun x : Bay => x.st) = (S.bays[i]?).map (fun x : Bay => x.st) := fun i => by
    rw [← List.getElem?_map, ← List.getElem?_map, cutBays_st]
  unfold state mount
  simp only [cutBays_len, h]
theorem there_mount (S : Shelf) (ps : List Int) (p : Place) : there (mount S ps) p ↔ there S p := by
  unfold there; rw [state_mount]; rfl
theorem number_mount (S : Shelf) (ps : List Int) (p : Place) : number (mount S ps) p = number S p := by
  unfold number
  by_cases h : there S p
  · rw [if_pos h, if_pos ((there_mount S ps p).2 h)]; rfl
  · rw [if_neg h, if_neg fun h' => h ((there_mount S ps p).1 h')]
end Go.Shf0
