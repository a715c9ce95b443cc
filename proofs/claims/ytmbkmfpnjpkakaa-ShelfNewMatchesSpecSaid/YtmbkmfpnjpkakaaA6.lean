/- A region that draws its order, walked in one order, as in A3; the condition S on the world need not hold behind one operation f, for which every reading one comes earlier. No program is named. -/
import Derived.Test.YtmbkmfpnjpkakaaA5
namespace Go.Im
open Go

/-- Does f wait for i? -/
def waits (md : Region.Mode) (ops : Array Oper) (f i : Nat) : Bool := match ops[f]? with
  | none => false
  | some o => o.after.any fun e => Region.binds md e && e.on == i

section
variable {P : Program} {ops : Array Oper} {Q : Exit → Act → World → Prop} {md : Region.Mode} {S : World → Prop} {eff : List Nat} {f : Nat}

theorem waits_ready {l : Array Bool} {i : Nat} (h : waits md ops f i = true) (hi : i ∈ Region.ready md ops l) : f ∉ Region.ready md ops l := fun hf => by
  obtain ⟨-, o, ho, hall⟩ := mem_ready.1 hf
  unfold waits at h
  rw [ho] at h
  simp only [Array.any_eq_true', Bool.and_eq_true, beq_iff_eq] at h
  obtain ⟨e, he, hb, hon⟩ := h
  have h1 := hall e he hb
  have h0 := (mem_ready.1 hi).1
  rw [hon] at h1
  rcases Nat.lt_or_ge i l.size with h' | h'
  · simp [h'] at h0 h1; rw [h0] at h1; cases h1
  · simp [Array.getElem?_eq_none h'] at h1

/-- Whatever order is drawn from here on; S holds behind each operation but f. -/
def heldTo (P : Program) (md : Region.Mode) (ops : Array Oper) (Q : Exit → Act → World → Prop) (S : World → Prop) (f : Nat) : Nat → Array Bool → Act → World → Prop
  | 0, l, a, w => Region.ready md ops l = [] ∧ Q .normal a w
  | n + 1, l, a, w => Region.ready md ops l ≠ [] ∧ ∀ i ∈ Region.ready md ops l, wpOp P ops Q i (fun a' w' => (i ≠ f → S w') ∧ heldTo P md ops Q S f n (l.setIfInBounds i true) a' w') a w

theorem heldTo_any : ∀ (n : Nat) (l : Array Bool) (a : Act) (w : World), heldTo P md ops Q S f n l a w → wpAny P md ops Q n l a w
  | 0, _, _, _, h => h
  | n + 1, _, _, _, h => ⟨fun h0 => absurd h0 h.1, fun i hi => wpOp_mono (fun a' w' h' => heldTo_any n _ a' w' h'.2) (h.2 i hi)⟩

/-- A reading operation, for which f waits, may come first. -/
theorem heldTo_read {i : Nat} {oi : Oper} {v : Value} (hi : ops[i]? = some oi) (hsel : ∀ (j : Nat) (o : Oper) cs b, ops[j]? = some o → o.op ≠ .select cs b) (hQ : ∀ c a w, Q (.panic c) (a.put oi.dst v) w → Q (.panic c) a w) (hf : waits md ops f i = true) :
    ∀ (n : Nat) (l : Array Bool) (a : Act) (w : World), (∀ j oj, ops[j]? = some oj → j ≠ i → l.getD j true = false → (∀ e ∈ oj.after, Region.binds md e = true → e.on ≠ i) → oi.apart ops oj = true) →
      i ∈ Region.ready md ops l → YieldsIf P ops S oi v a → S w → heldTo P md ops Q S f n (l.setIfInBounds i true) (a.put oi.dst v) w → heldTo P md ops Q S f (n + 1) l a w := by
  intro n
  induction n with
  | zero =>
    intro l a w _ hr hy hS H
    refine ⟨fun h => (by rw [h] at hr; cases hr), fun j hj => ?_⟩
    by_cases hji : j = i
    · subst hji; exact hy.wpOp hi hS ⟨fun _ => hS, H⟩
    · have := ready_mono hj hji
      rw [H.1] at this; cases this
  | succ n ih =>
    intro l a w hfree hr hy hS H
    refine ⟨fun h => (by rw [h] at hr; cases hr), fun j hj => ?_⟩
    by_cases hji : j = i
    · subst hji; exact hy.wpOp hi hS ⟨fun _ => hS, H⟩
    · obtain ⟨hjun, oj, hoj, hall⟩ := mem_ready.1 hj
      have hnot : ∀ e ∈ oj.after, Region.binds md e = true → e.on ≠ i := fun e he hb heq => by
        have h1 := hall e he hb
        have h0 := (mem_ready.1 hr).1
        rw [heq] at h1
        rcases Nat.lt_or_ge i l.size with h' | h'
        · simp [h'] at h0 h1; rw [h0] at h1; cases h1
        · simp [Array.getElem?_eq_none h'] at h1
      have hmore : ∀ k ok, ops[k]? = some ok → k ≠ i → (l.setIfInBounds j true).getD k true = false → (∀ e ∈ ok.after, Region.binds md e = true → e.on ≠ i) → oi.apart ops ok = true := fun k ok hk hki hun hno => by
        refine hfree k ok hk hki ?_ hno
        by_cases hjk : j = k
        · subst hjk; exact hjun
        · rw [getD_set_ne true hjk] at hun; exact hun
      have hjf : j ≠ f := fun e => waits_ready hf hr (e ▸ hj)
      refine wpOp_mono (fun a' w' h3 => ?_) (wpOp_putIf hoj (hfree j oj hoj hji hjun hnot) (fun cs b => hsel i oi cs b hi) (fun cs b => hsel j oj cs b hoj) hQ hy (H.2 j (ready_mono hj hji)))
      obtain ⟨hy', hS', h4⟩ := h3
      refine ⟨hS', ih (l.setIfInBounds j true) a' w' hmore (ready_mono hr (Ne.symm hji)) hy' (hS' hjf) ?_⟩
      rw [Array.setIfInBounds_comm _ _ hji]
      exact h4

def seqF (P : Program) (ops : Array Oper) (Q : Exit → Act → World → Prop) (S : World → Prop) (eff : List Nat) (f : Nat) : List (Nat × Oper) → Act → World → Prop
  | [], a, w => Q .normal a w
  | (i, o) :: l, a, w =>
    if eff.contains i then (if Region.wanted o (yielded ops a.tmps) then o.wp P a w (fun a' w' => (i ≠ f → S w') ∧ seqF P ops Q S eff f l a' w') Q else ((i ≠ f → S w) ∧ seqF P ops Q S eff f l (a.put o.dst undef) w))
    else ∃ v, YieldsIf P ops S o v a ∧ S w ∧ seqF P ops Q S eff f l (a.put o.dst v) w

/-- Is the order l good? -/
def seqC (md : Region.Mode) (ops : Array Oper) (eff : List Nat) (f : Nat) : List Nat → Array Bool → Bool
  | [], listed => (Region.ready md ops listed).isEmpty
  | i :: l, listed => (Region.ready md ops listed).contains i && decide (i < ops.size) && (if eff.contains i then (Region.ready md ops listed).all (· == i) else (Region.free md ops listed i && waits md ops f i) || (Region.ready md ops listed).all (· == i)) && seqC md ops eff f l (listed.setIfInBounds i true)

theorem seqF_any (hsel : Region.noSelect ops = true) (hQ : ∀ (i : Nat) (o : Oper), ops[i]? = some o → ∀ (v : Value) (c : List PanicEntry) (a : Act) (w : World), Q (.panic c) (a.put o.dst v) w → Q (.panic c) a w) :
    ∀ (l : List Nat) (listed : Array Bool) (a : Act) (w : World), seqC md ops eff f l listed = true → seqF P ops Q S eff f (pickOps ops l) a w → heldTo P md ops Q S f l.length listed a w
  | [], listed, a, w, hb, h => by
    simp only [seqC, List.isEmpty_iff] at hb
    exact ⟨hb, h⟩
  | i :: l, listed, a, w, hb, h => by
    simp only [seqC, Bool.and_eq_true, decide_eq_true_eq] at hb
    obtain ⟨⟨⟨hr, hi⟩, hc⟩, hrest⟩ := hb
    have ho : ops[i]? = some ops[i] := Array.getElem?_eq_getElem hi
    have hp : pickOps ops (i :: l) = (i, ops[i]) :: pickOps ops l := by simp [pickOps, ho]
    rw [hp] at h
    simp only [seqF] at h
    by_cases he : eff.contains i = true
    · rw [if_pos he] at h hc
      simp only [List.all_eq_true, beq_iff_eq] at hc
      refine ⟨fun h0 => (by rw [h0] at hr; simp at hr), fun j hj => ?_⟩
      have hji := hc j hj
      subst hji
      unfold wpOp
      rw [ho]
      simp only
      split at h
      · rename_i hw
        rw [if_pos hw]
        left
        refine Oper.wp_mono ?_ h
        rintro a' w' ⟨hS', h'⟩
        exact ⟨hS', seqF_any hsel hQ l _ a' w' hrest h'⟩
      · rename_i hw
        rw [if_neg hw]
        exact ⟨h.1, seqF_any hsel hQ l _ _ w hrest h.2⟩
    · rw [if_neg he] at h hc
      obtain ⟨v, hy, hS, h'⟩ := h
      simp only [Bool.or_eq_true, Bool.and_eq_true] at hc
      rcases hc with hc | hc
      · exact heldTo_read ho (Region.noSelect_spec hsel) (hQ i _ ho v) hc.2 _ listed a w (Region.free_spec ho hc.1) (by simpa using hr) hy hS (seqF_any hsel hQ l _ _ w hrest h')
      · simp only [List.all_eq_true, beq_iff_eq] at hc
        refine ⟨fun h0 => (by rw [h0] at hr; simp at hr), fun j hj => ?_⟩
        have hji := hc j hj
        subst hji
        exact hy.wpOp ho hS ⟨fun _ => hS, seqF_any hsel hQ l _ _ w hrest h'⟩

/-- THE BEGINNING. -/
theorem wp_region_seqF {id : Nat} {a : Act} {w : World} (S : World → Prop) (l eff : List Nat) (f : Nat) (hm : P.follows .mixedOrders = true) (hsel : Region.noSelect ops = true)
    (hB : (l.length == ops.size && seqC .any ops eff f l (Array.replicate ops.size false)) = true)
    (h : seqF P ops (NoPanic Q) S eff f (pickOps ops l) a w.drew) : (Code.region id ops true).wp P Q a w := by
  simp only [Bool.and_eq_true, beq_iff_eq] at hB
  have h1 := seqF_any (md := .any) hsel (fun i o _ v c a w h => h.elim) l (Array.replicate ops.size false) a _ hB.2 h
  rw [hB.1] at h1
  exact wp_region_noPanic (wp_region_any hm (heldTo_any _ _ _ _ h1))

theorem seqF_read {i : Nat} {o : Oper} {l : List (Nat × Oper)} {a : Act} {w : World} {v : Value} (he : eff.contains i = false) (hw : Region.wanted o (yielded ops a.tmps) = true) (hS : S w)
    (hy : ∀ w, S w → (execOp a.eval o).run P w = .ok (.value v) w) (h : seqF P ops Q S eff f l (a.put o.dst v) w) : seqF P ops Q S eff f ((i, o) :: l) a w := by
  simp only [seqF, he, Bool.false_eq_true, if_false]
  exact ⟨v, .inl ⟨hw, hy⟩, hS, h⟩

theorem seqF_skip {i : Nat} {o : Oper} {l : List (Nat × Oper)} {a : Act} {w : World} (he : eff.contains i = false) (hw : Region.wanted o (yielded ops a.tmps) = false) (hS : S w)
    (h : seqF P ops Q S eff f l (a.put o.dst undef) w) : seqF P ops Q S eff f ((i, o) :: l) a w := by
  simp only [seqF, he, Bool.false_eq_true, if_false]
  exact ⟨undef, .inr ⟨hw, rfl⟩, hS, h⟩

theorem seqF_eff {i : Nat} {o : Oper} {l : List (Nat × Oper)} {a : Act} {w : World} (he : eff.contains i = true) (hw : Region.wanted o (yielded ops a.tmps) = true)
    (h : ∀ K : Act → World → Prop, Shut (∀ a w, (i ≠ f → S w) → seqF P ops Q S eff f l a w → K a w) → o.wp P a w K Q) : seqF P ops Q S eff f ((i, o) :: l) a w := by
  simp only [seqF, he, if_true, hw]
  exact h _ (fun a w h1 h2 => ⟨h1, h2⟩)

theorem seqF_nil {a : Act} {w : World} (h : Q .normal a w) : seqF P ops (NoPanic Q) S eff f [] a w := h
end
end Go.Im
