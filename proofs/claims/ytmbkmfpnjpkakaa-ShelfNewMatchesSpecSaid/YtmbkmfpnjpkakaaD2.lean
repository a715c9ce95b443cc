/- The program's disk: Lose, Misdirect, Write: what each makes of the plain disk. -/
import Derived.Test.YtmbkmfpnjpkakaaD1
namespace Go.Proofs.Ytmbkmfpnjpkakaa
open Go.RowKit Go.Im Go.Dsk0

/-- What a function of the sectors is after one sector turned. -/
def secF (G : Sec → Option Value) (D : Dsk) : Int → Option Value := fun k => if 0 ≤ k then (D[k.toNat]?).bind G else none
theorem cacheF_eq (D : Dsk) : cacheF D = secF (fun s => s.cac.map secV) D := rfl
theorem armF_eq (D : Dsk) : armF D = secF (fun s => s.flt.map (Value.int .i64)) D := rfl

theorem secF_modify {G : Sec → Option Value} {D : Dsk} {i : Int} {f : Sec → Sec} {v : Option Value} (h0 : 0 ≤ i) (hi : i < D.length) (hv : ∀ s, D[i.toNat]? = some s → G (f s) = v) : secF G (D.modify i.toNat f) = upd (secF G D) i v := by
  funext k
  simp only [secF, upd]
  by_cases hk : k = i
  · subst hk
    rw [if_pos h0, if_pos rfl, List.getElem?_modify]
    have : D[k.toNat]? = some D[k.toNat] := List.getElem?_eq_getElem (by omega)
    rw [this]; simp [hv _ this]
  · rw [if_neg hk]
    by_cases h1 : 0 ≤ k
    · rw [if_pos h1, if_pos h1, List.getElem?_modify]
      have : ¬ i.toNat = k.toNat := by omega
      simp [this]
    · rw [if_neg h1, if_neg h1]

theorem secF_modify_same {G : Sec → Option Value} {D : Dsk} {i : Nat} {f : Sec → Sec} (hv : ∀ s, G (f s) = G s) : secF G (D.modify i f) = secF G D := by
  funext k
  unfold secF
  split
  · rw [List.getElem?_modify]
    cases D[k.toNat]? with
    | none => rfl
    | some s => by_cases h : i = k.toNat <;> simp [h, hv]
  · rfl

theorem secF_at {G : Sec → Option Value} {D : Dsk} {i : Int} (h0 : 0 ≤ i) : secF G D i = (D[i.toNat]?).bind G := by simp [secF, h0]

/-- The durable contents are what they were. -/
theorem DurAt.same {w : World} {av : Option Addr} {bd : Nat} {D D' : Dsk} (h : DurAt w av bd D) (hl : D'.length = D.length) (hd : ∀ (i : Nat) (s' : Sec), D'[i]? = some s' → ∃ s, D[i]? = some s ∧ s'.dur = s.dur) : DurAt w av bd D' := by
  rcases h with h | ⟨h1, cs, h2, h3, h4⟩
  · left; subst h; exact List.eq_nil_of_length_eq_zero (by simpa using hl)
  · refine .inr ⟨h1, cs, h2, by rw [hl]; exact h3, fun i s' hs j hj => ?_⟩
    obtain ⟨s, hs', e⟩ := hd i s' hs
    rw [e]; exact h4 i s hs' j hj
theorem DurAt.modify {w : World} {av : Option Addr} {bd : Nat} {D : Dsk} (h : DurAt w av bd D) (i : Nat) (f : Sec → Sec) (hf : ∀ s, (f s).dur = s.dur) : DurAt w av bd (D.modify i f) := by
  refine h.same (by simp) fun j s' hs => ?_
  rw [List.getElem?_modify] at hs
  cases hq : D[j]? with
  | none => simp [hq] at hs
  | some s =>
    refine ⟨s, rfl, ?_⟩
    by_cases hij : i = j
    · simp [hq, hij] at hs; rw [← hs, hf]
    · simp [hq, hij] at hs; rw [← hs]
theorem DurAt.clr {w : World} {av : Option Addr} {bd : Nat} {D : Dsk} (h : DurAt w av bd D) (i : Nat) : DurAt w av bd (clr D i) := h.modify i _ (fun _ => rfl)
theorem DurAt.setc {w : World} {av : Option Addr} {bd : Nat} {D : Dsk} (h : DurAt w av bd D) (i : Nat) (l : List UInt8) : DurAt w av bd (setc D i l) := h.modify i _ (fun _ => rfl)
theorem DurAt.fr {w w' : World} {av : Option Addr} {bd : Nat} {D : Dsk} (h : DurAt w av bd D) {S : Nat → Prop} (f : Fr S w w') (hd : D ≠ [] → ¬ S bd) : DurAt w' av bd D := by
  rcases h with h | ⟨h1, cs, h2, h3⟩
  · exact .inl h
  · by_cases hD : D = []
    · exact .inl hD
    · exact .inr ⟨h1, cs, (f.block bd (lt_of_blk h2) (hd hD)).trans h2, h3⟩

theorem has_eq (D : Dsk) (i : Int) : hasB D.length i = has D i := rfl

/-- The disk, its cells laid open. -/
theorem DiskAt.open_ {w : World} {g bd bc ba : Nat} {D : Dsk} (h : DiskAt w g bd bc ba D) : ∃ av cap, w.cell? ⟨g, 0, none⟩ = some (.slice av D.length cap) ∧ w.cell? ⟨g, 1, none⟩ = some (.map (some bc)) ∧ w.cell? ⟨g, 2, none⟩ = some (.map (some ba)) ∧
    w.heap[g]? = some (.cells #[.slice av D.length cap, .map (some bc), .map (some ba)] 119 (0, 0)) ∧ D.length ≤ cap ∧ DurAt w av bd D := by
  obtain ⟨av, cap, hg, hc, hd⟩ := h.head
  exact ⟨av, cap, by rw [cell_of_blk hg]; rfl, by rw [cell_of_blk hg]; rfl, by rw [cell_of_blk hg]; rfl, hg, hc, hd⟩

theorem foot_d (bd bc ba : Nat) : foot bd bc ba bd := .inl rfl
theorem foot_c (bd bc ba : Nat) : foot bd bc ba bc := .inr (.inl rfl)
theorem foot_a (bd bc ba : Nat) : foot bd bc ba ba := .inr (.inr rfl)

theorem lose_calls (g bd bc ba : Nat) (D : Dsk) (i : Int) (w : World) (h : DiskAt w g bd bc ba D) :
    Calls Try.prog 38 #[.pointer (some ⟨g, 0, none⟩), .int .i64 i] w fun e w' => e = .returned (.int .i64 (lose D i).1) ∧ DiskAt w' g bd bc ba (lose D i).2 ∧ Fr (foot bd bc ba) w w' := by
  obtain ⟨av, cap, c0, c1, c2, hg, hcap, hd⟩ := h.open_
  cases hi : has D i with
  | false =>
    refine (lose_no g D.length cap av i w c0 hi).mono ?_
    rintro e w' ⟨rfl, rfl⟩
    unfold lose
    rw [if_neg (by simp [hi])]
    exact ⟨rfl, h, Fr.refl _ _⟩
  | true =>
    refine (lose_yes g D.length cap av ba i w _ c0 c2 h.armed hi).mono ?_
    rintro e w' ⟨rfl, hA, f⟩
    unfold lose
    rw [if_pos hi]
    have hi' := has_iff.1 hi
    obtain ⟨g1, g2, g3⟩ := h.gne
    refine ⟨rfl, ⟨h.ok.arm _ _ (.inl rfl), ⟨av, cap, ?_, by simpa [arm] using hcap, ?_⟩, ?_, ?_, h.ne⟩, f.mono fun k _ hk => by subst hk; exact foot_a _ _ _⟩
    · rw [show (arm D i.toNat (-1)).length = D.length by simp [arm]]
      exact (f.block g (lt_of_blk hg) g2).trans hg
    · exact (hd.fr f fun hD => (g3 hD).2.2).modify _ _ (fun _ => rfl)
    · have e : cacheF (arm D i.toNat (-1)) = cacheF D := by rw [cacheF_eq, cacheF_eq]; exact secF_modify_same (fun _ => rfl)
      rw [e]; exact h.cache.same (f.block bc h.cache.lt h.ne)
    · have e : armF (arm D i.toNat (-1)) = upd (armF D) i (some (.int .i64 (-1))) := by rw [armF_eq, armF_eq]; exact secF_modify hi'.1 hi'.2 (fun _ _ => rfl)
      rw [e]; exact hA

theorem misdirect_calls (g bd bc ba : Nat) (D : Dsk) (i t : Int) (w : World) (h : DiskAt w g bd bc ba D) :
    Calls Try.prog 41 #[.pointer (some ⟨g, 0, none⟩), .int .i64 i, .int .i64 t] w fun e w' => e = .returned (.int .i64 (misdirect D i t).1) ∧ DiskAt w' g bd bc ba (misdirect D i t).2 ∧ Fr (foot bd bc ba) w w' := by
  obtain ⟨av, cap, c0, c1, c2, hg, hcap, hd⟩ := h.open_
  by_cases hb : has D i = true ∧ has D t = true
  · obtain ⟨hi, ht⟩ := hb
    refine (misdirect_yes g D.length cap av ba i t w _ c0 c2 h.armed hi ht).mono ?_
    rintro e w' ⟨rfl, hA, f⟩
    unfold misdirect
    rw [if_pos ⟨hi, ht⟩]
    have hi' := has_iff.1 hi
    obtain ⟨g1, g2, g3⟩ := h.gne
    refine ⟨rfl, ⟨h.ok.arm _ _ (.inr (has_iff.1 ht)), ⟨av, cap, ?_, by simpa [arm] using hcap, ?_⟩, ?_, ?_, h.ne⟩, f.mono fun k _ hk => by subst hk; exact foot_a _ _ _⟩
    · rw [show (arm D i.toNat t).length = D.length by simp [arm]]
      exact (f.block g (lt_of_blk hg) g2).trans hg
    · exact (hd.fr f fun hD => (g3 hD).2.2).modify _ _ (fun _ => rfl)
    · have e : cacheF (arm D i.toNat t) = cacheF D := by rw [cacheF_eq, cacheF_eq]; exact secF_modify_same (fun _ => rfl)
      rw [e]; exact h.cache.same (f.block bc h.cache.lt h.ne)
    · have e : armF (arm D i.toNat t) = upd (armF D) i (some (.int .i64 t)) := by rw [armF_eq, armF_eq]; exact secF_modify hi'.1 hi'.2 (fun _ _ => rfl)
      rw [e]; exact hA
  · have hb' : hasB D.length i = false ∨ hasB D.length t = false := by
      rw [has_eq, has_eq]
      cases h1 : has D i <;> cases h2 : has D t <;> simp_all
    refine (misdirect_no g D.length cap av i t w c0 hb').mono ?_
    rintro e w' ⟨rfl, rfl⟩
    unfold misdirect
    rw [if_neg hb]
    exact ⟨rfl, h, Fr.refl _ _⟩

theorem clr_length (D : Dsk) (i : Nat) : (clr D i).length = D.length := by simp [clr]
theorem setc_length (D : Dsk) (i : Nat) (l : List UInt8) : (setc D i l).length = D.length := by simp [setc]
theorem armF_clr {D : Dsk} {i : Int} (h0 : 0 ≤ i) (hi : i < D.length) : armF (clr D i.toNat) = upd (armF D) i none := by rw [armF_eq, armF_eq]; exact secF_modify h0 hi (fun _ _ => rfl)
theorem cacheF_clr (D : Dsk) (i : Nat) : cacheF (clr D i) = cacheF D := by rw [cacheF_eq, cacheF_eq]; exact secF_modify_same (fun _ => rfl)
theorem armF_setc (D : Dsk) (i : Nat) (l : List UInt8) : armF (setc D i l) = armF D := by rw [armF_eq, armF_eq]; exact secF_modify_same (fun _ => rfl)
theorem cacheF_setc {D : Dsk} {i : Int} (l : List UInt8) (h0 : 0 ≤ i) (hi : i < D.length) : cacheF (setc D i.toNat l) = upd (cacheF D) i (some (secV l)) := by rw [cacheF_eq, cacheF_eq]; exact secF_modify h0 hi (fun _ _ => rfl)

theorem write_calls (g bd bc ba : Nat) (D : Dsk) (i : Int) (s : ByteArray) (w : World) (h : DiskAt w g bd bc ba D) :
    Calls Try.prog 39 #[.pointer (some ⟨g, 0, none⟩), .int .i64 i, .string s] w fun e w' => e = .returned (.int .i64 (write D i s.data.toList).1) ∧ DiskAt w' g bd bc ba (write D i s.data.toList).2 ∧ Fr (foot bd bc ba) w w' := by
  obtain ⟨av, cap, c0, c1, c2, hg, hcap, hd⟩ := h.open_
  obtain ⟨g1, g2, g3⟩ := h.gne
  have hlen : s.data.toList.length = s.size := rfl
  by_cases hb : has D i = true ∧ s.size = 64
  · obtain ⟨hi, hs⟩ := hb
    have hi' := has_iff.1 hi
    have hs1 : ((s.size : Int) != 64) = false := by rw [hs]; rfl
    have hok := h.ok.write i s.data.toList
    have hgo := goal_ok h.ok hi
    unfold write at hok ⊢
    rw [hlen, if_pos ⟨hi, hs⟩] at hok ⊢
    have hget : D[i.toNat]? = some D[i.toNat] := List.getElem?_eq_getElem (by omega)
    have hfi : armF D i = (D[i.toNat].flt).map (Value.int .i64) := by rw [armF_eq, secF_at hi'.1, hget]; rfl
    have hgoal : goal D i = (D[i.toNat].flt).getD i := by unfold goal; rw [hget]; rfl
    by_cases hgl : goal D i = -1
    · rw [if_pos hgl] at hok ⊢
      have hfl : armF D i = some (.int .i64 (-1)) := by
        rw [hgoal] at hgl
        rw [hfi]
        cases hq : D[i.toNat].flt with
        | none => rw [hq] at hgl; simp at hgl; omega
        | some t => rw [hq] at hgl; simp at hgl; subst hgl; rfl
      refine (write_lost g D.length cap av ba i s w _ c0 c2 h.armed hi hs1 hfl).mono ?_
      rintro e w' ⟨rfl, hA, f⟩
      refine ⟨rfl, ⟨hok, ⟨av, cap, ?_, by rw [clr_length]; exact hcap, ?_⟩, ?_, ?_, h.ne⟩, f.mono fun k _ hk => by subst hk; exact foot_a _ _ _⟩
      · rw [clr_length]; exact (f.block g (lt_of_blk hg) g2).trans hg
      · exact (hd.fr f fun hD => (g3 hD).2.2).modify _ _ (fun _ => rfl)
      · rw [cacheF_clr]; exact h.cache.same (f.block bc h.cache.lt h.ne)
      · rw [armF_clr hi'.1 hi'.2]; exact hA
    · rw [if_neg hgl] at hok ⊢
      have hgo' := hgo.resolve_left hgl
      have hfin : ∀ e w', e = Ending.returned (.int .i64 0) ∧ At w' ba (upd (armF D) i none) ∧ At w' bc (upd (cacheF D) (goal D i) (some (.agg (cellsB s.data.toList)))) ∧ Fr (fun k => k = ba ∨ k = bc) w w' →
          e = Ending.returned (.int .i64 0) ∧ DiskAt w' g bd bc ba (setc (clr D i.toNat) (goal D i).toNat s.data.toList) ∧ Fr (foot bd bc ba) w w' := by
        rintro e w' ⟨rfl, hA, hC, f⟩
        refine ⟨rfl, ⟨hok, ⟨av, cap, ?_, by rw [setc_length, clr_length]; exact hcap, ?_⟩, ?_, ?_, h.ne⟩, f.mono fun k _ hk => ?_⟩
        · rw [setc_length, clr_length]; exact (f.block g (lt_of_blk hg) (fun h => h.elim g2 g1)).trans hg
        · exact ((hd.fr f fun hD h => h.elim (g3 hD).2.2 (g3 hD).2.1).clr _).setc _ _
        · rw [cacheF_setc _ hgo'.1 (by rw [clr_length]; exact hgo'.2), cacheF_clr]; exact hC
        · rw [armF_setc, armF_clr hi'.1 hi'.2]; exact hA
        · rcases hk with hk | hk <;> subst hk
          · exact foot_a _ _ _
          · exact foot_c _ _ _
      cases hq : D[i.toNat].flt with
      | none =>
        have e1 : goal D i = i := by rw [hgoal, hq]; rfl
        rw [e1] at hfin ⊢
        refine (write_own g D.length cap av ba bc i s w _ _ c0 c1 c2 h.armed h.cache h.ne g2 g1 hi hs1 (by rw [hfi, hq]; rfl)).mono hfin
      | some t =>
        have e1 : goal D i = t := by rw [hgoal, hq]; rfl
        rw [e1] at hfin hgo' ⊢
        refine (write_wrong g D.length cap av ba bc i s w _ _ c0 c1 c2 h.armed h.cache h.ne g2 g1 hi hs1 t (has_iff.2 hgo') (by rw [hfi, hq]; rfl)).mono hfin
  · have hb' : hasB D.length i = false ∨ ((s.size : Int) == 64) = false := by
      rw [has_eq]
      cases h1 : has D i with
      | false => exact .inl rfl
      | true =>
        right
        have : s.size ≠ 64 := fun e => hb ⟨h1, e⟩
        simp; omega
    refine (write_no g D.length cap av i s w c0 hb').mono ?_
    rintro e w' ⟨rfl, rfl⟩
    unfold write
    rw [hlen, if_neg hb]
    exact ⟨rfl, h, Fr.refl _ _⟩

end Go.Proofs.Ytmbkmfpnjpkakaa
