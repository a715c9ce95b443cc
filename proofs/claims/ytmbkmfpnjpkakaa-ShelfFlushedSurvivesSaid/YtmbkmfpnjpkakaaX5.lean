/- The program's shelf: a copy that is being made. -/
import Derived.Test.YtmbkmfpnjpkakaaX4
namespace Go.Proofs.Ytmbkmfpnjpkakaa
open Go.RowKit Go.Im Go.Dsk0

/-- The parts of a copy that is being made. -/
structure Copying (w0 : World) (S : Shf0.Shelf) (c k j : Nat) (bs : List (Loc × Shf0.Bay)) (im : List (Loc × Dsk)) (bv iv : Value) (w : World) : Prop where
  head : w.heap[c]? = some (.cells (shelfC S bv iv) 104 (0, 0))
  row : w.ownsRow w0.heap.size 106 2 bv k (bs.flatMap bayC)
  rowi : w.ownsRow w0.heap.size 41 1 iv j (im.map imC)
  lb : bs.length = k
  li : im.length = j
  eb : bs.map (·.2) = S.bays.take k
  ei : im.map (·.2) = S.images.take j
  kb : ∀ x ∈ bs, DK w x.1 x.2.D
  ki : ∀ x ∈ im, DK w x.1 x.2
  new : ∀ L ∈ bs.map (·.1) ++ im.map (·.1), ∀ q, L.has q → w0.heap.size ≤ q
  apart : (bs.map (·.1) ++ im.map (·.1)).Pairwise Apart
  fr : Fr (fun q => w0.heap.size ≤ q) w0 w
  ge : w0.heap.size ≤ c

section
variable {w0 : World} {S : Shf0.Shelf} {c k j : Nat} {bs : List (Loc × Shf0.Bay)} {im : List (Loc × Dsk)} {bv iv : Value} {w : World}

theorem Copying.keep (h : Copying w0 S c k j bs im bv iv w) {w' : World} (f : Fr (fun _ => False) w w') : Copying w0 S c k j bs im bv iv w' :=
  ⟨(f.block _ (lt_of_blk h.head) (fun h => h)).trans h.head, row_keep' h.row f, row_keep' h.rowi f, h.lb, h.li, h.eb, h.ei, fun x hx => (h.kb x hx).keep f, fun x hx => (h.ki x hx).keep f, h.new, h.apart, h.fr.trans f.no, h.ge⟩

theorem Copying.lt (h : Copying w0 S c k j bs im bv iv w) : ∀ L ∈ bs.map (·.1) ++ im.map (·.1), ∀ q, L.has q → q < w.heap.size := fun L hL q hq => by
  rcases List.mem_append.1 hL with hL | hL
  · obtain ⟨x, hx, rfl⟩ := List.mem_map.1 hL
    exact (h.kb x hx).lthas hq
  · obtain ⟨x, hx, rfl⟩ := List.mem_map.1 hL
    exact (h.ki x hx).lthas hq

theorem Copying.bay (h : Copying w0 S c k 0 bs [] bv iv w) {w' w1 w2 : World} {b : Shf0.Bay} (hb : S.bays[k]? = some b) (f0 : Fr (fun _ => False) w w') {L : Loc} (hd : DK w' L b.D) (hL : ∀ q, L.has q → w.heap.size ≤ q) {v' : Value}
    (f1 : Fr (fun q => some q = bv.ownBlock) w' w1) (o : w1.ownsRow w0.heap.size 106 2 v' (k + 1) (bs.flatMap bayC ++ [L.ptr, .int .i64 b.st])) (f2 : Fr (fun q => q = c) w1 w2) (b2 : w2.heap[c]? = some (.cells (shelfC S v' iv) 104 (0, 0))) :
    Copying w0 S c (k + 1) 0 (bs ++ [(L, b)]) [] v' iv w2 := by
  have h' := h.keep f0
  have hc1 := (f1.block c (lt_of_blk h'.head) (own_not h'.row h'.head (by decide))).trans h'.head
  have hdk : ∀ {M : Loc} {D : Dsk}, DK w' M D → DK w2 M D := fun {M D} hM => by
    have a1 := hM.fr f1 (own_disk h'.row hM (by decide) (by decide))
    exact a1.fr f2 (fun q hq e => by subst e; exact a1.not hc1 (by decide) (by decide) hq)
  have h0 := h.fr.size
  refine ⟨b2, ?_, ?_, by simp [h.lb], rfl, ?_, rfl, fun x hx => ?_, (by intro x hx; cases hx), fun M hM q hq => ?_, ?_, ?_, h.ge⟩
  · rw [List.flatMap_append]
    exact own_row o f2 (fun q cs hq e => by subst e; exact absurd (cells_type hq hc1) (by decide))
  · have a1 := own_row h'.rowi f1 (fun q cs hq => own_not h'.row hq (by decide))
    exact own_row a1 f2 (fun q cs hq e => by subst e; exact absurd (cells_type hq hc1) (by decide))
  · rw [List.map_append, h.eb, List.take_add_one, hb]; rfl
  · rcases List.mem_append.1 hx with hx | hx
    · exact hdk (h'.kb x hx)
    · have e : x = (L, b) := by simpa using hx
      subst e
      exact hdk hd
  · simp only [List.map_nil, List.append_nil, List.map_append] at hM
    rcases List.mem_append.1 hM with hM | hM
    · exact h.new M (List.mem_append.2 (.inl hM)) q hq
    · have e : M = L := by simpa using hM
      subst e
      exact Nat.le_trans h0 (hL q hq)
  · simp only [List.map_nil, List.append_nil, List.map_append]
    rw [List.pairwise_append]
    refine ⟨by simpa using h.apart, by simp, fun M hM N hN q hq hq' => ?_⟩
    have e : N = L := by simpa using hN
    subst e
    have h1 := h.lt M (List.mem_append.2 (.inl hM)) q hq
    have h2 := hL q hq'
    omega
  · refine ((h.fr.trans f0.no).trans (f1.mono fun q _ hq => row_block h'.row hq)).trans (f2.mono fun q _ hq => ?_)
    rw [hq]; exact h.ge

theorem Copying.image (h : Copying w0 S c k j bs im bv iv w) {w' w1 w2 : World} {D : Dsk} (hb : S.images[j]? = some D) (f0 : Fr (fun _ => False) w w') {L : Loc} (hd : DK w' L D) (hL : ∀ q, L.has q → w.heap.size ≤ q) {v' : Value}
    (f1 : Fr (fun q => some q = iv.ownBlock) w' w1) (o : w1.ownsRow w0.heap.size 41 1 v' (j + 1) (im.map imC ++ [L.ptr])) (f2 : Fr (fun q => q = c) w1 w2) (b2 : w2.heap[c]? = some (.cells (shelfC S bv v') 104 (0, 0))) :
    Copying w0 S c k (j + 1) bs (im ++ [(L, D)]) bv v' w2 := by
  have h' := h.keep f0
  have hc1 := (f1.block c (lt_of_blk h'.head) (own_not h'.rowi h'.head (by decide))).trans h'.head
  have hdk : ∀ {M : Loc} {D : Dsk}, DK w' M D → DK w2 M D := fun {M D} hM => by
    have a1 := hM.fr f1 (own_disk h'.rowi hM (by decide) (by decide))
    exact a1.fr f2 (fun q hq e => by subst e; exact a1.not hc1 (by decide) (by decide) hq)
  have h0 := h.fr.size
  refine ⟨b2, ?_, ?_, h.lb, by simp [h.li], h.eb, ?_, fun x hx => hdk (h'.kb x hx), fun x hx => ?_, fun M hM q hq => ?_, ?_, ?_, h.ge⟩
  · have a1 := own_row h'.row f1 (fun q cs hq => own_not h'.rowi hq (by decide))
    exact own_row a1 f2 (fun q cs hq e => by subst e; exact absurd (cells_type hq hc1) (by decide))
  · rw [List.map_append]
    exact own_row o f2 (fun q cs hq e => by subst e; exact absurd (cells_type hq hc1) (by decide))
  · rw [List.map_append, h.ei, List.take_add_one, hb]; rfl
  · rcases List.mem_append.1 hx with hx | hx
    · exact hdk (h'.ki x hx)
    · have e : x = (L, D) := by simpa using hx
      subst e
      exact hdk hd
  · rw [List.map_append, ← List.append_assoc] at hM
    rcases List.mem_append.1 hM with hM | hM
    · exact h.new M hM q hq
    · have e : M = L := by simpa using hM
      subst e
      exact Nat.le_trans h0 (hL q hq)
  · rw [List.map_append, ← List.append_assoc, List.pairwise_append]
    refine ⟨h.apart, by simp, fun M hM N hN q hq hq' => ?_⟩
    have e : N = L := by simpa using hN
    subst e
    have h1 := h.lt M hM q hq
    have h2 := hL q hq'
    omega
  · refine ((h.fr.trans f0.no).trans (f1.mono fun q _ hq => row_block h'.rowi hq)).trans (f2.mono fun q _ hq => ?_)
    rw [hq]; exact h.ge

theorem Copying.done (h : Copying w0 S c k j bs im bv iv w) (hok : Shf0.Ok S) (hk : k = S.bays.length) (hj : j = S.images.length) : ShelfAt w (fun q => w0.heap.size ≤ q ∧ q < w.heap.size) c S := by
  refine ⟨bs, im, bv, iv, hok, ?_, ?_, h.head, ?_, ?_, h.kb, h.ki, h.apart, ⟨h.ge, lt_of_blk h.head⟩, fun q hq => ?_, fun q hq => ?_, fun L hL q hq => ⟨h.new L hL q hq, h.lt L hL q hq⟩, fun q hq => hq.2⟩
  · rw [h.eb, hk, List.take_length]
  · rw [h.ei, hj, List.take_length]
  · rw [h.lb]
    obtain ⟨a1, a2 | ⟨g, cap, cur, a2, a3, a4⟩⟩ := h.row
    · exact ⟨a1, .inl a2⟩
    · exact ⟨a1, .inr ⟨g, cap, cur, a2, Nat.zero_le _, a4⟩⟩
  · rw [h.li]
    obtain ⟨a1, a2 | ⟨g, cap, cur, a2, a3, a4⟩⟩ := h.rowi
    · exact ⟨a1, .inl a2⟩
    · exact ⟨a1, .inr ⟨g, cap, cur, a2, Nat.zero_le _, a4⟩⟩
  · obtain ⟨a1, a2 | ⟨g, cap, cur, a2, a3, a4, -⟩⟩ := h.row
    · rw [a2.1] at hq; cases hq
    · rw [a2] at hq; injection hq with hq; subst hq; exact ⟨a3, lt_of_blk a4⟩
  · obtain ⟨a1, a2 | ⟨g, cap, cur, a2, a3, a4, -⟩⟩ := h.rowi
    · rw [a2.1] at hq; cases hq
    · rw [a2] at hq; injection hq with hq; subst hq; exact ⟨a3, lt_of_blk a4⟩
end
end Go.Proofs.Ytmbkmfpnjpkakaa
