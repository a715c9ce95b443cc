/- The program's shelf: a disk moved from a bay to the images. -/
import Derived.Test.YtmbkmfpnjpkakaaX2
namespace Go.Im
open Go
/-- Where a row lies behind an append: where it was, or in a new block. -/
theorem append_place {P : Program} (w : World) (base : Nat) (t ty e : TypeId) (i : TypeInfo) (z : Value) (size bytes : Nat) (ht : P.underlying t = some (.slice e)) (hi : P.info? e = some i) (hz : i.zero = some z)
    (hsize : i.size = size) (hby : i.bytes = bytes) (hzs : z.cells.size = size) (hsz : 0 < size)
    (v : Value) (n : Nat) (xs : List Value) (hown : w.ownsRow base e size v n xs)
    (a : Addr) (m c : Nat) (news : List Value) (hm : 0 < m) (hl : news.length = m * size) (hnews : ∀ j u, news[j]? = some u → w.cell? (a.add j) = some u) (h1 : ∀ u ∈ news, u.oneCell' = true)
    (h63 : n + m ≤ maxLen) (hbytes : (n + m) * bytes ≤ 140737488355328) {v' : Value} {w' : World} (hr' : (Builtin.append_ #[t, t] ty #[v, .slice (some a) m c]).run P w = .ok v' w') :
    ∀ q, some q = v'.ownBlock → some q = v.ownBlock ∨ w.heap.size ≤ q := by
  subst hsize
  subst hby
  have hsmall : n + m ≤ 9223372036854775807 := by simp only [maxLen] at h63; omega
  intro q hq
  rcases hown.2 with ⟨rfl, rfl⟩ | ⟨g, cap, cur, rfl, hbg, hg, hnc, hcm, hcs, htake⟩
  · have hr := run_append_nil (P := P) w t ty e i z ht hi hz a m c news hl hnews (by omega) (by omega) (by have hb := hbytes; simp only [Nat.zero_add] at hb; omega)
    rw [hr] at hr'
    injection hr' with hv hw
    subst hv
    injection hq with hq
    exact .inr (by rw [hq]; exact Nat.le_refl _)
  · by_cases hroom : n + m ≤ cap
    · have hfit : n * i.size + news.length ≤ cur.size := by rw [hl, hcs, ← Nat.add_mul]; exact Nat.mul_le_mul_right _ hroom
      have hr := run_append_room (P := P) w t ty e i ht hi g n cap cur hg a m c news hl hnews h1 hroom hfit
      rw [hr] at hr'
      injection hr' with hv hw
      subst hv
      exact .inl hq
    · have holds : ∀ j u, xs[j]? = some u → w.cell? ((⟨g, 0, none⟩ : Addr).add j) = some u := hown.cells (g := g) rfl
      have hr := run_append_grow (P := P) w t ty e i z ht hi hz ⟨g, 0, none⟩ n cap xs hown.1 holds a m c news hl hnews (by omega) (by omega) (growslice_fits (by omega) hbytes)
      rw [hr] at hr'
      injection hr' with hv hw
      subst hv
      injection hq with hq
      exact .inr (by rw [hq]; exact Nat.le_refl _)
/-- One element appended to a row: the row's place is told too. -/
theorem wp_append_pl {P : Program} {Q : Exit → Act → World → Prop} {o : Oper} {a : Act} {w : World} {K : Act → World → Prop} (s x : Operand) (t : TypeId) (hop : o.op = .call { callee := .builtin .append, args := #[s, x], argTypes := #[t, t] })
    (base : Nat) {e : TypeId} {i : TypeInfo} {z : Value} {size bytes : Nat} (ht : P.underlying t = some (.slice e)) (hi : P.info? e = some i) (hz : i.zero = some z)
    (hsize : i.size = size) (hby : i.bytes = bytes) (hzs : z.cells.size = size) (hsz : 0 < size)
    {v : Value} {n : Nat} {xs : List Value} (hs : a.eval s = v) (hown : w.ownsRow base e size v n xs)
    {b c : Nat} {cs : Array Value} {te : TypeId} (hx : a.eval x = .slice (some ⟨b, 0, none⟩) 1 c) (hb : w.heap[b]? = some (.cells cs te (0, 0))) (hl : cs.size = size) (h1 : ∀ u ∈ cs.toList, u.oneCell' = true)
    (h63 : n + 1 ≤ maxLen) (hbytes : (n + 1) * bytes ≤ 140737488355328) (hbase : base ≤ w.heap.size)
    (h : ∀ v' w', w'.ownsRow base e size v' (n + 1) (xs ++ cs.toList) → w.grownBy w' v.ownBlock → (∀ q, some q = v'.ownBlock → some q = v.ownBlock ∨ w.heap.size ≤ q) → K (a.put o.dst v') w') : o.wp P a w K Q := by
  have hnews : ∀ j u, cs.toList[j]? = some u → w.cell? ((⟨b, 0, none⟩ : Addr).add j) = some u := fun j u hj => by
    have e1 : (⟨b, 0, none⟩ : Addr).add j = ⟨b, j, none⟩ := by simp [Addr.add]; omega
    rw [e1, cell_of_blk hb]; simpa using hj
  obtain ⟨v', w', hr, h2, h3, h4⟩ := run_append_own (P := P) w base t o.type e i z size bytes ht hi hz hsize hby hzs hsz v n xs hown ⟨b, 0, none⟩ 1 c cs.toList (by simp [hl]) hnews h1 h63 hbytes hbase
  have h5 := append_place (P := P) w base t o.type e i z size bytes ht hi hz hsize hby hzs hsz v n xs hown ⟨b, 0, none⟩ 1 c cs.toList (by decide) (by simp [hl]) hnews h1 h63 hbytes hr
  unfold Oper.wp execOp
  simp only [hop, resolve, invoke, builtin, Sem.run_bind, Sem.run_pure, Result.andThen_ok, List.map_toArray, List.map_cons, List.map_nil, hs, hx, hr]
  exact h v' w' h2 h3 h5
end Go.Im
namespace Go.Proofs.Ytmbkmfpnjpkakaa
open Go.RowKit Go.Im Go.Dsk0

section
variable {w : World} {O : Nat → Prop} {s : Nat} {S : Shf0.Shelf}

/-- A bay's disk moved to the images, the bay filled anew. -/
theorem ShelfIn.moved {w1 w2 w3 w4 w5 : World} {bs : List (Loc × Shf0.Bay)} {im : List (Loc × Dsk)} {bv iv v' : Value} (h : ShelfIn w1 O s S bs im bv iv) {k : Nat} {L : Loc} {b : Shf0.Bay} (hx : bs[k]? = some (L, b)) {vb cap : Nat} {cur : Array Value} (hbv : bv = .slice (some ⟨vb, 0, none⟩) bs.length cap) (hvb : w1.heap[vb]? = some (.cells cur 106 (0, 0)))
    (f12 : Fr (fun q => some q = iv.ownBlock) w1 w2) (o2 : w2.ownsRow 0 41 1 v' (im.length + 1) (im.map imC ++ [L.ptr])) (p2 : ∀ q, some q = v'.ownBlock → some q = iv.ownBlock ∨ (w1.heap.size ≤ q))
    (f23 : Fr (fun q => q = s) w2 w3) (b3 : w3.heap[s]? = some (.cells (shelfC S bv v') 104 (0, 0)))
    (f34 : Fr (fun _ => False) w3 w4) {L' : Loc} {b' : Shf0.Bay} (hd : DK w4 L' b'.D) (hL' : ∀ q, L'.has q → w3.heap.size ≤ q)
    (f45 : Fr (fun q => q = vb) w4 w5) (b5 : w5.heap[vb]? = some (.cells (splice cur (k * 2) [L'.ptr, .int .i64 b'.st]) 106 (0, 0)))
    (hok : Shf0.Ok { S with bays := S.bays.set k b', images := S.images ++ [b.D] }) :
    ShelfAt w5 (grow O w1 w5) s { S with bays := S.bays.set k b', images := S.images ++ [b.D] } ∧ Fr O w1 w5 := by
  have hk := (List.getElem?_eq_some_iff.1 hx).1
  have hrw : ∀ {cs : Array Value} {q : Nat} {t : TypeId}, w1.heap[q]? = some (.cells cs t (0, 0)) → t ≠ 41 → t ≠ 104 → t ≠ 106 → w5.heap[q]? = some (.cells cs t (0, 0)) := fun {cs q t} hq h1 h2 h3 => by
    have l1 := lt_of_blk hq
    have a2 := (f12.block q l1 (own_not h.ri hq h1)).trans hq
    have a3 := (f23.block q (lt_of_blk a2) (fun e => by
      subst e
      have := (f12.block q l1 (own_not h.ri hq h1)).trans h.head
      exact h2 (cells_type a2 this))).trans a2
    have a4 := (f34.block q (lt_of_blk a3) (fun h => h)).trans a3
    refine (f45.block q (lt_of_blk a4) (fun e => ?_)).trans a4
    subst e
    exact h3 (cells_type hq hvb)
  have hdk : ∀ {M : Loc} {D : Dsk}, DK w1 M D → DK w5 M D := fun {M D} hM => by
    have a2 := hM.fr f12 (own_disk h.ri hM (by decide) (by decide))
    have hs2 := (f12.block s (lt_of_blk h.head) (own_not h.ri h.head (by decide))).trans h.head
    have a3 := a2.fr f23 (fun q hq e => by subst e; exact a2.not hs2 (by decide) (by decide) hq)
    have a4 := a3.keep f34
    exact a4.fr f45 (fun q hq e => by subst e; exact hM.not hvb (by decide) (by decide) hq)
  have hvs : ¬ vb = s := fun e => by subst e; exact absurd (cells_type h.head hvb) (by decide)
  have hvb2 := (f12.block vb (lt_of_blk hvb) (own_not h.ri hvb (by decide))).trans hvb
  have hvb3 := (f23.block vb (lt_of_blk hvb2) hvs).trans hvb2
  have hvb4 := (f34.block vb (lt_of_blk hvb3) (fun h => h)).trans hvb3
  have hnd : DK w5 L' b'.D := hd.fr f45 (fun q hq e => by subst e; exact hd.not hvb4 (by decide) (by decide) hq)
  have hsz : w1.heap.size ≤ w3.heap.size := Nat.le_trans f12.size f23.size
  have hsz5 : w1.heap.size ≤ w5.heap.size := Nat.le_trans hsz (Nat.le_trans f34.size f45.size)
  have hOlt := h.olt
  have hapn : ∀ M : Loc, (∀ q, M.has q → O q) → Apart L' M := fun M hM q hq hq' => by
    have h1 := hL' q hq
    have h2 := hOlt q (hM q hq')
    omega
  have hLO := foot_in h hx
  have hmapL : (bs.set k (L', b')).map (·.1) = (bs.map (·.1)).set k L' := by rw [List.map_set]
  have hgrow : ∀ q, L'.has q → grow O w1 w5 q := fun q hq => .inr ⟨Nat.le_trans hsz (hL' q hq), hnd.lthas hq⟩
  have hlt5 : ∀ q, grow O w1 w5 q → q < w5.heap.size := fun q hq => hq.elim (fun hq => Nat.lt_of_lt_of_le (hOlt q hq) hsz5) (·.2)
  have o5 : w5.ownsRow 0 41 1 v' (im.length + 1) (im.map imC ++ [L.ptr]) := by
    have hs2 := (f12.block s (lt_of_blk h.head) (own_not h.ri h.head (by decide))).trans h.head
    have a3 := own_row o2 f23 (fun q cs hq e => by subst e; exact absurd (cells_type hs2 hq) (by decide))
    have a4 := row_keep' a3 f34
    exact own_row a4 f45 (fun q cs hq e => by subst e; exact absurd (cells_type hvb4 hq) (by decide))
  refine ⟨⟨bs.set k (L', b'), im ++ [(L, b.D)], bv, v', hok, ?_, ?_, ?_, ?_, ?_, fun x hx' => ?_, fun x hx' => ?_, ?_, .inl h.os, fun q hq => .inl (h.ob q hq), fun q hq => ?_, fun M hM q hq => ?_, hlt5⟩, ?_⟩
  · show S.bays.set k b' = _
    rw [h.eb, List.map_set]
  · show S.images ++ [b.D] = _
    rw [h.ei, List.map_append]; rfl
  · have a4 := (f34.block s (lt_of_blk b3) (fun h => h)).trans b3
    exact (f45.block s (lt_of_blk a4) (fun e => hvs e.symm)).trans a4
  · rw [List.length_set]
    have hrb : w4.ownsRow 0 106 2 bv bs.length (bs.flatMap bayC) := by
      have a2 := own_row h.rb f12 (fun q cs hq => own_not h.ri hq (by decide))
      have hs2 := (f12.block s (lt_of_blk h.head) (own_not h.ri h.head (by decide))).trans h.head
      have a3 := own_row a2 f23 (fun q cs hq e => by subst e; exact absurd (cells_type hs2 hq) (by decide))
      exact row_keep' a3 f34
    subst hbv
    exact bays_set hrb hvb4 b5
  · rw [List.length_append, List.map_append]; exact o5
  · rcases List.mem_or_eq_of_mem_set hx' with hx' | rfl
    · exact hdk (h.kb x hx')
    · exact hnd
  · rcases List.mem_append.1 hx' with hx' | hx'
    · exact hdk (h.ki x hx')
    · have e : x = (L, b.D) := by simpa using hx'
      subst e
      exact hdk (h.kb _ (List.mem_of_getElem? hx))
  · have hap := h.apartB hx
    have hp := h.apart
    obtain ⟨p1, p2', p3⟩ := List.pairwise_append.1 hp
    have hall : ∀ (j : Nat) (x : Loc), (bs.map (·.1))[j]? = some x → ∃ y, bs[j]? = some y ∧ x = y.1 := fun j x hj => by
      rw [List.getElem?_map] at hj
      cases hy : bs[j]? with
      | none => simp [hy] at hj
      | some y => rw [hy] at hj; exact ⟨y, rfl, by simpa using hj.symm⟩
    have hbO : ∀ y ∈ bs, ∀ q, y.1.has q → O q := fun y hy => h.od y.1 (by simp only [List.mem_append, List.mem_map]; exact .inl ⟨y, hy, rfl⟩)
    have hiO : ∀ y ∈ im, ∀ q, y.1.has q → O q := fun y hy => h.od y.1 (by simp only [List.mem_append, List.mem_map]; exact .inr ⟨y, hy, rfl⟩)
    rw [hmapL, List.map_append, List.pairwise_append]
    refine ⟨pairwise_set Apart.symm p1 fun j x hj hx' => ?_, ?_, fun M hM N hN => ?_⟩
    · obtain ⟨y, hy, rfl⟩ := hall j x hx'
      exact hapn _ (hbO y (List.mem_of_getElem? hy))
    · rw [List.pairwise_append]
      refine ⟨p2', by simp, fun M hM N hN => ?_⟩
      have e : N = L := by simpa using hN
      subst e
      obtain ⟨y, hy, rfl⟩ := List.mem_map.1 hM
      exact (hap.2 y hy).symm
    · obtain ⟨j, hj⟩ := List.mem_iff_getElem?.1 hM
      rw [List.getElem?_set] at hj
      rcases List.mem_append.1 hN with hN | hN
      · obtain ⟨z, hz, rfl⟩ := List.mem_map.1 hN
        split at hj
        · split at hj
          · injection hj with hj
            subst hj
            exact hapn _ (hiO z hz)
          · cases hj
        · obtain ⟨y, hy, rfl⟩ := hall j M hj
          exact p3 _ (List.mem_map.2 ⟨y, List.mem_of_getElem? hy, rfl⟩) _ (List.mem_map.2 ⟨z, hz, rfl⟩)
      · have e : N = L := by simpa using hN
        subst e
        split at hj
        · split at hj
          · injection hj with hj
            subst hj
            exact hapn _ hLO
          · cases hj
        · rename_i hne
          obtain ⟨y, hy, rfl⟩ := hall j M hj
          exact (hap.1 j y (fun e => hne e.symm) hy).symm
  · rcases p2 q hq with h1 | h1
    · exact .inl (h.oi q h1)
    · refine .inr ⟨h1, ?_⟩
      obtain ⟨-, a2 | ⟨g, cap', cur', a2, -, a4, -⟩⟩ := o5
      · rw [a2.1] at hq; cases hq
      · rw [a2] at hq; injection hq with hq; subst hq; exact lt_of_blk a4
  · rw [hmapL] at hM
    rcases List.mem_append.1 hM with hM | hM
    · rcases List.mem_or_eq_of_mem_set hM with hM | rfl
      · exact .inl (h.od M (List.mem_append.2 (.inl hM)) q hq)
      · exact hgrow q hq
    · rw [List.map_append] at hM
      rcases List.mem_append.1 hM with hM | hM
      · exact .inl (h.od M (List.mem_append.2 (.inr hM)) q hq)
      · have e : M = L := by simpa using hM
        subst e
        exact .inl (hLO q hq)
  · refine (((f12.mono fun q _ hq => h.oi q hq).trans (f23.mono fun q _ hq => ?_)).trans f34.no).trans (f45.mono fun q _ hq => ?_)
    · rw [hq]; exact h.os
    · rw [hq]; exact h.ob vb (by rw [hbv]; rfl)

theorem info41' : (Try.prog.info? 41).map (fun i => (i.zero, i.size, i.bytes)) = some (some (.pointer none), 1, 8) := by kernel_rfl
theorem mt102 : Try.prog.underlying 102 = some (.slice 41) := by kernel_rfl
end
end Go.Proofs.Ytmbkmfpnjpkakaa
