/- The program's shelf: a bay replaced; want, Kill, Replace, Insert. -/
import Derived.Test.YtmbkmfpnjpkakaaS12
namespace Go.Proofs.Ytmbkmfpnjpkakaa
open Go.RowKit Go.Im Go.Dsk0

theorem pairwise_set {α : Type} {R : α → α → Prop} (hs : ∀ {a b}, R a b → R b a) : ∀ {l : List α} {k : Nat} {a : α}, l.Pairwise R → (∀ j x, j ≠ k → l[j]? = some x → R a x) → (l.set k a).Pairwise R
  | [], _, _, _, _ => by simp
  | x :: l, 0, a, h, ha => by
    obtain ⟨h1, h2⟩ := List.pairwise_cons.1 h
    refine List.pairwise_cons.2 ⟨fun y hy => ?_, h2⟩
    obtain ⟨j, hj⟩ := List.mem_iff_getElem?.1 hy
    exact ha (j + 1) y (by omega) (by simpa using hj)
  | x :: l, k + 1, a, h, ha => by
    obtain ⟨h1, h2⟩ := List.pairwise_cons.1 h
    refine List.pairwise_cons.2 ⟨fun y hy => ?_, pairwise_set hs h2 fun j y hj hy => ha (j + 1) y (by omega) (by simpa using hy)⟩
    rcases List.mem_or_eq_of_mem_set hy with hy | rfl
    · exact h1 y hy
    · exact hs (ha 0 x (by omega) rfl)

/-- A row of bays, one of them replaced. -/
theorem bays_set {w w' : World} {bs : List (Loc × Shf0.Bay)} {vb cap k : Nat} {cur : Array Value} {L : Loc} {b : Shf0.Bay} (hr : w.ownsRow 0 106 2 (.slice (some ⟨vb, 0, none⟩) bs.length cap) bs.length (bs.flatMap bayC)) (hb : w.heap[vb]? = some (.cells cur 106 (0, 0)))
    (hb' : w'.heap[vb]? = some (.cells ((cur.setIfInBounds (k * 2) L.ptr).setIfInBounds (k * 2 + 1) (.int .i64 b.st)) 106 (0, 0))) : w'.ownsRow 0 106 2 (.slice (some ⟨vb, 0, none⟩) bs.length cap) bs.length ((bs.set k (L, b)).flatMap bayC) := by
  obtain ⟨h1, h2 | ⟨g, cap', cur', h2, h3, h4, h5, h6, h7, h8⟩⟩ := hr
  · exact absurd h2.1 (by intro h; injection h with h; cases h)
  · injection h2 with e1 e2 e3
    injection e1 with e1
    injection e1 with e1
    subst e1
    subst e3
    rw [hb] at h4
    injection h4 with h4
    injection h4 with h4
    subst h4
    refine ⟨by rw [bayC_len]; simp, .inr ⟨vb, cap, _, rfl, h3, hb', h5, h6, by simpa using h7, ?_⟩⟩
    apply List.ext_getElem?
    intro q
    obtain ⟨i, u, hu, rfl⟩ : ∃ i u, u < 2 ∧ q = i * 2 + u := ⟨q / 2, q % 2, by omega, by omega⟩
    rw [bayC_get _ _ _ hu]
    by_cases hi : i < bs.length
    · rw [List.getElem?_take_of_lt (by omega)]
      have hold : ∀ v, v < 2 → cur[i * 2 + v]? = (bs[i]?).bind fun d => (bayC d)[v]? := fun v hv => by
        have : (cur.toList.take (bs.length * 2))[i * 2 + v]? = (bs[i]?).bind fun d => (bayC d)[v]? := by rw [h8, bayC_get _ _ _ hv]
        rw [List.getElem?_take_of_lt (by omega)] at this
        simpa using this
      have hcz : bs.length * 2 ≤ cur.size := by omega
      simp only [Array.getElem?_toList]
      by_cases hik : k = i
      · subst hik
        rw [List.getElem?_set_self hi]
        have : u = 0 ∨ u = 1 := by omega
        rcases this with rfl | rfl
        · rw [Array.getElem?_setIfInBounds_ne (by omega), Nat.add_zero, Array.getElem?_setIfInBounds_self_of_lt (by omega)]; rfl
        · rw [Array.getElem?_setIfInBounds_self_of_lt (by simp; omega)]; rfl
      · rw [List.getElem?_set_ne hik, Array.getElem?_setIfInBounds_ne (by omega), Array.getElem?_setIfInBounds_ne (by omega)]
        exact hold u hu
    · rw [List.getElem?_eq_none (by simp; omega), List.getElem?_eq_none (by simp; omega)]; rfl

section
variable {w w' : World} {O O' : Nat → Prop} {s : Nat} {S : Shf0.Shelf} {bs : List (Loc × Shf0.Bay)} {im : List (Loc × Dsk)} {bv iv : Value}

theorem ShelfIn.setBay (h : ShelfIn w O s S bs im bv iv) {k : Nat} (hk : k < bs.length) {vb cap : Nat} {cur : Array Value} (hbv : bv = .slice (some ⟨vb, 0, none⟩) bs.length cap) (hvb : w.heap[vb]? = some (.cells cur 106 (0, 0)))
    {L : Loc} {b : Shf0.Bay} (f : Fr (fun q => q = vb) w w') (hb' : w'.heap[vb]? = some (.cells ((cur.setIfInBounds (k * 2) L.ptr).setIfInBounds (k * 2 + 1) (.int .i64 b.st)) 106 (0, 0)))
    (hd : DK w L b.D) (hap : ∀ j x, j ≠ k → bs[j]? = some x → Apart L x.1) (hapi : ∀ x ∈ im, Apart L x.1) (hO : ∀ q, O q → O' q) (hL : ∀ q, L.has q → O' q) (hl : ∀ q, O' q → q < w.heap.size) (hok : Shf0.Ok { S with bays := S.bays.set k b }) :
    ShelfIn w' O' s { S with bays := S.bays.set k b } (bs.set k (L, b)) im bv iv := by
  have hne : ∀ L D, DK w L D → DK w' L D := fun L D hk => hk.fr f fun q hq e => by
    subst e; exact hk.not hvb (by decide) (by decide) hq
  have hsv : ¬ s = vb := fun e => by subst e; exact absurd (cells_type h.head hvb) (by decide)
  have hmapL : (bs.set k (L, b)).map (·.1) ++ im.map (·.1) = (bs.map (·.1) ++ im.map (·.1)).set k L := by
    rw [List.map_set, List.set_append_left _ _ (by simpa using hk)]
  refine ⟨hok, ?_, h.ei, (f.block s (lt_of_blk h.head) hsv).trans h.head, ?_, own_row h.ri f (fun b cs hb e => by subst e; exact absurd (cells_type hb hvb) (by decide)), fun x hx => ?_, fun x hx => hne _ _ (h.ki x hx), ?_, hO _ h.os, fun q hq => hO _ (h.ob q hq), fun q hq => hO _ (h.oi q hq), fun M hM q hq => ?_, fun q hq => Nat.lt_of_lt_of_le (hl q hq) f.size⟩
  · show S.bays.set k b = _
    rw [h.eb, List.map_set]
  · rw [List.length_set]
    have := h.rb
    subst hbv
    exact bays_set this hvb hb'
  · rcases List.mem_or_eq_of_mem_set hx with hx | rfl
    · exact hne _ _ (h.kb x hx)
    · exact hne _ _ hd
  · rw [hmapL]
    refine pairwise_set Apart.symm h.apart fun j x hj hx => ?_
    by_cases hjl : j < bs.length
    · rw [List.getElem?_append_left (by simpa using hjl), List.getElem?_map] at hx
      cases hy : bs[j]? with
      | none => simp [hy] at hx
      | some y => rw [hy] at hx; simp at hx; subst hx; exact hap j y hj hy
    · rw [List.getElem?_append_right (by simp; omega), List.getElem?_map] at hx
      cases hy : im[j - (bs.map (·.1)).length]? with
      | none => rw [hy] at hx; simp at hx
      | some y => rw [hy] at hx; simp at hx; subst hx; exact hapi y (List.mem_of_getElem? hy)
  · rw [hmapL] at hM
    rcases List.mem_or_eq_of_mem_set hM with hM | rfl
    · exact hO _ (h.od M hM q hq)
    · exact hL q hq

theorem want_calls (h : ShelfAt w O s S) (d : Int) (inn : Bool) (er : Int) : Calls Try.prog 96 #[.pointer (some ⟨s, 0, none⟩), .int .i64 d, .bool inn, .int .i64 er] w fun e w' => e = .returned (.int .i64 (Shf0.want S d inn er)) ∧ w = w' := by
  have H := Lib.hid h; clear h
  obtain ⟨st, hst⟩ : ∃ st, st = Shf0.state S d := ⟨_, rfl⟩
  have hR : Shf0.want S d inn er = if st = 0 then 1 else if decide (st = 1) ≠ inn then er else 0 := by rw [hst]; rfl
  rw [hR]
  clear hR
  by_cases h0 : st = 0
  · have hb : (st == 0) = true := by simp [h0]
    rw [if_pos h0]
    have HST := Lib.hid hst; clear hst h0
    go_enter Try.func96, Try.ntmps96
    go_wp2_with fail
    refine (state_calls H.out d).mono ?_; rintro e w1 ⟨rfl, rfl⟩
    rw [← HST.out]
    go_wp2_with fail
    go_ret
    exact ⟨rfl, rfl⟩
  · have hb : (st == 0) = false := by simp [h0]
    rw [if_neg h0]
    by_cases h1 : st = 1
    · have hb1 : (st == 1) = true := by simp [h1]
      rw [decide_eq_true h1]
      have HST := Lib.hid hst; clear hst h0 h1
      cases inn
      · go_enter Try.func96, Try.ntmps96
        go_wp2_with fail
        refine (state_calls H.out d).mono ?_; rintro e w1 ⟨rfl, rfl⟩
        rw [← HST.out]
        go_wp2_with fail
        go_ret
        exact ⟨rfl, rfl⟩
      · go_enter Try.func96, Try.ntmps96
        go_wp2_with fail
        refine (state_calls H.out d).mono ?_; rintro e w1 ⟨rfl, rfl⟩
        rw [← HST.out]
        go_wp2_with fail
        go_ret
        exact ⟨rfl, rfl⟩
    · have hb1 : (st == 1) = false := by simp [h1]
      rw [decide_eq_false h1]
      have HST := Lib.hid hst; clear hst h0 h1
      cases inn
      · go_enter Try.func96, Try.ntmps96
        go_wp2_with fail
        refine (state_calls H.out d).mono ?_; rintro e w1 ⟨rfl, rfl⟩
        rw [← HST.out]
        go_wp2_with fail
        go_ret
        exact ⟨rfl, rfl⟩
      · go_enter Try.func96, Try.ntmps96
        go_wp2_with fail
        refine (state_calls H.out d).mono ?_; rintro e w1 ⟨rfl, rfl⟩
        rw [← HST.out]
        go_wp2_with fail
        go_ret
        exact ⟨rfl, rfl⟩
end
end Go.Proofs.Ytmbkmfpnjpkakaa
