/- The program's shelf: what becomes of it when its block, or a bay's disk, turns; step. -/
import Derived.Test.YtmbkmfpnjpkakaaS5
namespace Go.Proofs.Ytmbkmfpnjpkakaa
open Go.RowKit Go.Im Go.Dsk0

section
variable {w w' : World} {O : Nat → Prop} {s : Nat} {S S' : Shf0.Shelf} {bs : List (Loc × Shf0.Bay)} {im : List (Loc × Dsk)} {bv iv : Value}

theorem own_row {w w' : World} {base : Nat} {e : TypeId} {size : Nat} {v : Value} {n : Nat} {xs : List Value} (hr : w.ownsRow base e size v n xs) {T : Nat → Prop} (f : Fr T w w') (hT : ∀ (b : Nat) (cs : Array Value), w.heap[b]? = some (.cells cs e (0, 0)) → ¬ T b) : w'.ownsRow base e size v n xs := by
  obtain ⟨h1, h2 | ⟨g, cap, cur, h2, h3, h4, h5⟩⟩ := hr
  · exact ⟨h1, .inl h2⟩
  · exact ⟨h1, .inr ⟨g, cap, cur, h2, h3, (f.block g (lt_of_blk h4) (hT g cur h4)).trans h4, h5⟩⟩
theorem cells_type {w : World} {b : Nat} {cs cs' : Array Value} {t t' : TypeId} {fr fr' : Nat × Nat} (h : w.heap[b]? = some (.cells cs t fr)) (h' : w.heap[b]? = some (.cells cs' t' fr')) : t = t' := by
  rw [h] at h'; injection h' with h'; injection h'

/-- The shelf's own block turned. -/
theorem ShelfIn.setHead (h : ShelfIn w O s S bs im bv iv) (f : Fr (fun q => q = s) w w') (hb : w'.heap[s]? = some (.cells (shelfC S' bv iv) 104 (0, 0))) (hk : Shf0.Ok S') (e1 : S'.bays = S.bays) (e2 : S'.images = S.images) : ShelfIn w' O s S' bs im bv iv := by
  have hne : ∀ (b : Nat) (cs : Array Value) (t : TypeId) (fr : Nat × Nat), w.heap[b]? = some (.cells cs t fr) → t ≠ 104 → ¬ b = s := fun b cs t fr hb' ht e => by
    subst e; exact ht (cells_type hb' h.head)
  have hd : ∀ L D, DK w L D → DK w' L D := fun L D hk => hk.fr f fun q hq e => by
    subst e
    exact hk.not h.head (by decide) (by decide) hq
  exact ⟨hk, e1.trans h.eb, e2.trans h.ei, hb, own_row h.rb f (fun b cs hb' => hne b cs _ _ hb' (by decide)), own_row h.ri f (fun b cs hb' => hne b cs _ _ hb' (by decide)), fun x hx => hd _ _ (h.kb x hx), fun x hx => hd _ _ (h.ki x hx), h.apart, h.os, h.ob, h.oi, h.od, fun q hq => Nat.lt_of_lt_of_le (h.olt q hq) f.size⟩

theorem foot_not {L : Loc} {D : Dsk} (h : DK w L D) {b : Nat} {cs : Array Value} {t : TypeId} {fr : Nat × Nat} (hb : w.heap[b]? = some (.cells cs t fr)) (h1 : t ≠ 126) (h2 : t ≠ 119) : ¬ L.foot b := fun hq => h.not hb h1 h2 (.inr hq)

theorem pair_mem {α : Type} {R : α → α → Prop} (hs : ∀ {a b}, R a b → R b a) : ∀ {l : List α}, l.Pairwise R → ∀ {i j : Nat} {a b : α}, l[i]? = some a → l[j]? = some b → i ≠ j → R a b
  | x :: l, h, 0, 0, _, _, _, _, hne => absurd rfl hne
  | x :: l, h, 0, j + 1, a, b, ha, hb, _ => by
    obtain ⟨h1, h2⟩ := List.pairwise_cons.1 h
    have e : x = a := by simpa using ha
    subst e
    exact h1 b (List.mem_of_getElem? (by simpa using hb))
  | x :: l, h, i + 1, 0, a, b, ha, hb, _ => by
    obtain ⟨h1, h2⟩ := List.pairwise_cons.1 h
    have e : x = b := by simpa using hb
    subst e
    exact hs (h1 a (List.mem_of_getElem? (by simpa using ha)))
  | x :: l, h, i + 1, j + 1, a, b, ha, hb, hne => by
    obtain ⟨h1, h2⟩ := List.pairwise_cons.1 h
    exact pair_mem hs h2 (by simpa using ha) (by simpa using hb) (fun e => hne (by omega))

/-- A bay's disk turned. -/
theorem ShelfIn.turn (h : ShelfIn w O s S bs im bv iv) {k : Nat} {L : Loc} {b : Shf0.Bay} (hk : bs[k]? = some (L, b)) {F : Dsk → Dsk} (f : Fr L.foot w w') (hd : DK w' L (F b.D)) (hl : (F b.D).length = b.D.length) :
    ShelfIn w' O s (Shf0.turnD S k F) (bs.modify k fun x => (x.1, { x.2 with D := F x.2.D })) im bv iv := by
  have hL := h.kb _ (List.mem_of_getElem? hk)
  simp only at hL
  have hb1 : bs.map (·.1) = (bs.modify k fun x => (x.1, { x.2 with D := F x.2.D })).map (·.1) := by
    apply List.ext_getElem?; intro i
    simp only [List.getElem?_map, List.getElem?_modify]
    cases bs[i]? with
    | none => rfl
    | some x => by_cases hik : k = i <;> simp [hik]
  have hbC : bs.flatMap bayC = (bs.modify k fun x => (x.1, { x.2 with D := F x.2.D })).flatMap bayC := by
    have : ∀ (l : List (Loc × Shf0.Bay)) (k : Nat), l.flatMap bayC = (l.modify k fun x => (x.1, { x.2 with D := F x.2.D })).flatMap bayC := by
      intro l
      induction l with
      | nil => intro k; simp
      | cons x l ih =>
        intro k
        cases k with
        | zero => simp [bayC]
        | succ k => simp only [List.modify_succ_cons, List.flatMap_cons]; rw [← ih k]
    exact this bs k
  have hmem : ∀ y ∈ bs.modify k fun x => (x.1, { x.2 with D := F x.2.D }), (y = (L, { b with D := F b.D })) ∨ (y ∈ bs ∧ Apart L y.1) := fun y hy => by
    obtain ⟨j, hj⟩ := List.mem_iff_getElem?.1 hy
    rw [List.getElem?_modify] at hj
    by_cases hkj : k = j
    · subst hkj; rw [hk] at hj; simp at hj; exact .inl hj.symm
    · cases hx : bs[j]? with
      | none => simp [hx] at hj
      | some x =>
        simp [hx, hkj] at hj
        subst hj
        refine .inr ⟨List.mem_of_getElem? hx, ?_⟩
        have h1 : (bs.map (·.1) ++ im.map (·.1))[k]? = some L := by
          rw [List.getElem?_append_left (by simp; exact (List.getElem?_eq_some_iff.1 hk).1), List.getElem?_map, hk]; rfl
        have h2 : (bs.map (·.1) ++ im.map (·.1))[j]? = some x.1 := by
          rw [List.getElem?_append_left (by simp; exact (List.getElem?_eq_some_iff.1 hx).1), List.getElem?_map, hx]; rfl
        exact pair_mem Apart.symm h.apart h1 h2 hkj
  have hrow : ∀ (b : Nat) (cs : Array Value) (t : TypeId), w.heap[b]? = some (.cells cs t (0, 0)) → t ≠ 126 → t ≠ 119 → ¬ L.foot b := fun b cs t hb h1 h2 => foot_not hL hb h1 h2
  have heb : (Shf0.turnD S k F).bays = (bs.modify k fun x => (x.1, { x.2 with D := F x.2.D })).map (·.2) := by
    unfold Shf0.turnD
    rw [h.eb]
    apply List.ext_getElem?; intro i
    simp only [List.getElem?_map, List.getElem?_modify]
    cases bs[i]? with
    | none => rfl
    | some x => by_cases hik : k = i <;> simp [hik]
  have hbay : ∀ y ∈ (Shf0.turnD S k F).bays, (y = { b with D := F b.D }) ∨ y ∈ S.bays := fun y hy => by
    rw [heb] at hy
    obtain ⟨x, hx, rfl⟩ := List.mem_map.1 hy
    rcases hmem x hx with rfl | ⟨hx, -⟩
    · exact .inl rfl
    · exact .inr (by rw [h.eb]; exact List.mem_map_of_mem hx)
  have hbS : b ∈ S.bays := by rw [h.eb]; exact List.mem_map.2 ⟨(L, b), List.mem_of_getElem? hk, rfl⟩
  refine ⟨⟨h.ok.cfg, h.ok.sec, ?_, fun y hy => ?_, fun y hy hst => ?_, fun y hy => ?_, h.ok.img⟩, heb, h.ei, (f.block s (lt_of_blk h.head) (hrow s _ _ h.head (by decide) (by decide))).trans h.head, ?_, own_row h.ri f (fun b cs hb => hrow b cs _ hb (by decide) (by decide)), fun y hy => ?_, fun x hx => ?_, ?_, h.os, h.ob, h.oi, ?_, fun q hq => Nat.lt_of_lt_of_le (h.olt q hq) f.size⟩
  · simpa [Shf0.turnD] using h.ok.num
  · rcases hbay y hy with rfl | hy
    · exact hd.disk.ok
    · exact h.ok.bay y hy
  · rcases hbay y hy with rfl | hy
    · show ((F b.D).length : Int) = _
      rw [hl]; exact h.ok.len b hbS hst
    · exact h.ok.len y hy hst
  · rcases hbay y hy with rfl | hy
    · exact h.ok.st b hbS
    · exact h.ok.st y hy
  · rw [List.length_modify, ← hbC]
    exact own_row h.rb f (fun b cs hb => hrow b cs _ hb (by decide) (by decide))
  · rcases hmem y hy with rfl | ⟨hy, hap⟩
    · exact hd
    · exact (h.kb y hy).fr f fun q hq hq' => hap q (.inr hq') hq
  · have h1 : (bs.map (·.1) ++ im.map (·.1))[k]? = some L := by
      rw [List.getElem?_append_left (by simp; exact (List.getElem?_eq_some_iff.1 hk).1), List.getElem?_map, hk]; rfl
    obtain ⟨j, hj⟩ := List.mem_iff_getElem?.1 hx
    have h2 : (bs.map (·.1) ++ im.map (·.1))[bs.length + j]? = some x.1 := by
      rw [List.getElem?_append_right (by simp), List.getElem?_map]
      simp [hj]
    have hap := pair_mem Apart.symm h.apart h1 h2 (by have := (List.getElem?_eq_some_iff.1 hk).1; omega)
    exact (h.ki x hx).fr f fun q hq hq' => hap q (.inr hq') hq
  · rw [← hb1]; exact h.apart
  · rw [← hb1]; exact h.od

theorem foot_in (h : ShelfIn w O s S bs im bv iv) {k : Nat} {L : Loc} {b : Shf0.Bay} (hk : bs[k]? = some (L, b)) : ∀ q, L.has q → O q := fun q hq =>
  h.od L (by simp only [List.mem_append, List.mem_map]; exact .inl ⟨(L, b), List.mem_of_getElem? hk, rfl⟩) q hq
theorem state_at (h : ShelfIn w O s S bs im bv iv) {k : Nat} {x : Loc × Shf0.Bay} (hk : bs[k]? = some x) : Shf0.state S k = x.2.st := by
  have hl : S.bays.length = bs.length := by rw [h.eb]; simp
  have := (List.getElem?_eq_some_iff.1 hk).1
  unfold Shf0.state
  rw [if_pos ⟨by omega, by omega⟩, h.eb, Int.toNat_natCast, List.getElem?_map, hk]; rfl
theorem bayD_at (h : ShelfIn w O s S bs im bv iv) {k : Nat} {x : Loc × Shf0.Bay} (hk : bs[k]? = some x) : Shf0.bayD S k = x.2.D := by
  unfold Shf0.bayD
  rw [h.eb, List.getElem?_map, hk]; rfl
end
end Go.Proofs.Ytmbkmfpnjpkakaa
