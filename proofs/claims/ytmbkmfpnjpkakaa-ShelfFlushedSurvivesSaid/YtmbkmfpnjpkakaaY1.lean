/- Plain facts: a shelf after Mount; places are distinct; what was flushed survives. -/
import Derived.Test.YtmbkmfpnjpkakaaX13
import Derived.Test.YtmbkmfpnjpkakaaR7
namespace Go.Shf0
open Go.Dsk0

/-- A shelf with power and no fuse, whose disks in service have neither pending sectors nor armed faults. -/
structure Calm (M : Shelf) : Prop where
  off : M.off = false
  fused : M.fused = false
  bays : ∀ b ∈ M.bays, b.st = 1 → ∀ s ∈ b.D, s.cac = none ∧ s.flt = none

theorem cutBays_calm : ∀ (l : List Bay) (ps : List Int) (b : Bay), b ∈ cutBays l ps → b.st = 1 → ∀ s ∈ b.D, s.cac = none ∧ s.flt = none
  | [], _, _, h, _ => by simp [cutBays] at h
  | x :: l, ps, b, h, hb => by
    unfold cutBays at h
    split at h
    · rcases List.mem_cons.1 h with rfl | h
      · exact cut_cac _ _
      · exact cutBays_calm l _ b h hb
    · rename_i hx
      rcases List.mem_cons.1 h with rfl | h
      · exact absurd hb hx
      · exact cutBays_calm l _ b h hb
theorem mount_calm (S : Shelf) (ps : List Int) : Calm (mount S ps) := ⟨rfl, rfl, cutBays_calm S.bays ps⟩

theorem cut_calm {D : Dsk} (h : ∀ s ∈ D, s.cac = none ∧ s.flt = none) (ps : List Int) : cut D ps = D := by
  unfold cut
  rw [pend_nil fun s hs => (h s hs).1]
  show unarm D = D
  unfold unarm
  refine (List.map_congr_left fun s hs => ?_).trans (List.map_id D)
  have := (h s hs).2
  cases s; simp_all
theorem flush_calm {D : Dsk} (h : ∀ s ∈ D, s.cac = none ∧ s.flt = none) : Dsk0.flush D = D := by
  unfold Dsk0.flush
  refine (List.map_congr_left fun s hs => ?_).trans (List.map_id D)
  have := (h s hs).1
  cases s; simp_all [cont]
theorem cutBays_same : ∀ (l : List Bay) (ps : List Int), (∀ b ∈ l, b.st = 1 → ∀ s ∈ b.D, s.cac = none ∧ s.flt = none) → cutBays l ps = l
  | [], _, _ => rfl
  | x :: l, ps, h => by
    unfold cutBays
    have hl := fun qs => cutBays_same l qs fun b hb => h b (List.mem_cons_of_mem _ hb)
    split
    · rename_i hx
      rw [cut_calm (h x List.mem_cons_self hx), hl]
    · rw [hl]
theorem mount_same {M : Shelf} (h : Calm M) (ps : List Int) : mount M ps = M := by
  unfold mount
  rw [cutBays_same M.bays ps h.bays]
  have h1 := h.off
  have h2 := h.fused
  cases M; simp_all
theorem bay_at {S : Shelf} {d : Int} {t : Int} (h : state S d = t) (ht : t ≠ 0) : ∃ b, S.bays[d.toNat]? = some b ∧ b.st = t ∧ 0 ≤ d ∧ bayD S d.toNat = b.D := by
  subst h
  obtain ⟨h0, h1⟩ := state_ne ht
  have hl : d.toNat < S.bays.length := by omega
  refine ⟨S.bays[d.toNat], List.getElem?_eq_getElem hl, ?_, h0, ?_⟩
  · unfold state; rw [if_pos ⟨h0, h1⟩, List.getElem?_eq_getElem hl]; rfl
  · unfold bayD; rw [List.getElem?_eq_getElem hl]; rfl
theorem modify_same {l : List Bay} {k : Nat} {f : Bay → Bay} (h : ∀ b, l[k]? = some b → f b = b) : l.modify k f = l := by
  apply List.ext_getElem?
  intro j
  rw [List.getElem?_modify]
  by_cases hj : k = j
  · subst hj
    cases hb : l[k]? with
    | none => rfl
    | some b => simp [h b hb]
  · cases l[j]? <;> simp [hj]
theorem sflush_same {M : Shelf} (h : Calm M) {d : Int} (hs : state M d = 1) : flush M d = (0, M) := by
  unfold flush
  rw [if_neg (by rw [hs]; decide), step_plain h.off h.fused hs]
  obtain ⟨b, hb, hst, -, -⟩ := bay_at hs (by decide)
  unfold turnD
  rw [modify_same fun x hx => by
    rw [hb] at hx; injection hx with hx; subst hx
    rw [flush_calm (h.bays b (List.mem_of_getElem? hb) hst)]]
theorem flushFrom_same {M : Shelf} (h : Calm M) : ∀ (n k : Nat), flushFrom M k n = (0, M)
  | 0, _ => rfl
  | n + 1, k => by
    unfold flushFrom
    by_cases hs : state M k = 1
    · rw [if_neg (by rw [hs]; simp), sflush_same h hs, if_neg (by simp)]
      exact flushFrom_same h n (k + 1)
    · rw [if_pos hs]; exact flushFrom_same h n (k + 1)
theorem flushAll_same {M : Shelf} (h : Calm M) : flushAll M = (0, M) := by
  unfold flushAll
  rw [if_neg (by rw [h.off]; simp)]
  exact flushFrom_same h _ _

/-! Taking a disk out and inserting its image. -/
theorem remove_ok {M : Shelf} (h : Calm M) {d : Int} (hs : state M d = 1) : remove M d = ((M.images.length : Int), 0, { M with bays := M.bays.set d.toNat ⟨new 0, 2⟩, images := M.images ++ [bayD M d.toNat] }) := by
  have hw : want M d true 15 = 0 := by unfold want; rw [hs]; simp
  obtain ⟨b, hb, hst, -, hD⟩ := bay_at hs (by decide)
  unfold remove
  rw [if_pos hw, cut_calm (by rw [hD]; exact h.bays b (List.mem_of_getElem? hb) hst)]
theorem remove_no {M : Shelf} {d : Int} (hs : state M d ≠ 1) : (remove M d).2.1 ≠ 0 ∧ (remove M d).2.2 = M := by
  have hw : want M d true 15 ≠ 0 := by
    unfold want
    split
    · simp
    · rw [if_pos (by simp [hs])]; simp
  unfold remove
  rw [if_neg hw]
  exact ⟨hw, rfl⟩
theorem removed_state {M : Shelf} {d : Int} (hs : state M d = 1) (I : List Dsk) : state { M with bays := M.bays.set d.toNat ⟨new 0, 2⟩, images := I } d = 2 := by
  obtain ⟨h0, h1⟩ := state_ne (S := M) (d := d) (by rw [hs]; decide)
  have hl : d.toNat < M.bays.length := by omega
  unfold state
  rw [if_pos ⟨h0, by simpa using h1⟩]
  simp [hl]
theorem insert_back {M : Shelf} {d : Int} (hs : state M d = 1) : insert { M with bays := M.bays.set d.toNat ⟨new 0, 2⟩, images := M.images ++ [bayD M d.toNat] } d M.images.length = (0, { M with images := M.images ++ [bayD M d.toNat] }) := by
  have hst := removed_state hs (M.images ++ [bayD M d.toNat])
  obtain ⟨b, hb, hbs, -, hD⟩ := bay_at hs (by decide)
  obtain ⟨S', hS'⟩ : ∃ S', S' = ({ M with bays := M.bays.set d.toNat ⟨new 0, 2⟩, images := M.images ++ [bayD M d.toNat] } : Shelf) := ⟨_, rfl⟩
  rw [← hS'] at hst ⊢
  have hw : want S' d false 19 = 0 := by unfold want; rw [hst]; simp
  unfold insert
  rw [hw, if_neg (by decide), if_neg (by rw [hS']; simp; omega), if_pos rfl, hS']
  simp only [Int.toNat_natCast, List.getElem?_append_right (Nat.le_refl _), Nat.sub_self, List.getElem?_cons_zero, Option.getD_some, List.set_set]
  have : M.bays.set d.toNat ⟨bayD M d.toNat, 1⟩ = M.bays := by
    apply List.ext_getElem?
    intro j
    rw [List.getElem?_set]
    split
    · rename_i hj
      subst hj
      rw [hb, if_pos (List.getElem?_eq_some_iff.1 hb).1, hD, ← hbs]
    · rfl
  rw [this]
theorem images_state (M : Shelf) (I : List Dsk) (d : Int) : state { M with images := I } d = state M d := rfl
theorem images_peek (M : Shelf) (I : List Dsk) (p : Place) : peek { M with images := I } p = peek M p := rfl

/-! Places. -/
theorem mem_places {c : Cfg} {p : Place} (h : p ∈ places c) : (0 ≤ p.disk ∧ p.disk < c.disks) ∧ 1 ≤ p.area ∧ p.area ≤ 4 ∧ 0 ≤ p.index ∧ p.index < ((sizes c)[(p.area - 1).toNat]?).getD 0 := by
  obtain ⟨d, hd, h⟩ := List.mem_flatMap.1 h
  obtain ⟨a, ha, h⟩ := List.mem_flatMap.1 h
  obtain ⟨i, hi, rfl⟩ := List.mem_map.1 h
  rw [List.mem_range] at hd ha hi
  have e : ((a : Int) + 1 - 1).toNat = a := by omega
  simp only
  rw [e]
  exact ⟨⟨by omega, by omega⟩, by omega, by omega, by omega, by omega⟩
theorem state_range {S : Shelf} (hk : Ok S) {d : Int} (h0 : 0 ≤ d) (h1 : d < S.cfg.disks) : state S d ≠ 0 := by
  have hl : d.toNat < S.bays.length := by rw [hk.num]; omega
  unfold state
  rw [if_pos ⟨h0, by omega⟩, List.getElem?_eq_getElem hl]
  have := hk.st _ (List.getElem_mem hl)
  simp only [Option.map_some, Option.getD_some]
  omega
theorem place_there {S : Shelf} (hk : Ok S) {p : Place} (h : p ∈ places S.cfg) : there S p := by
  obtain ⟨⟨d0, d1⟩, a0, a1, i0, i1⟩ := mem_places h
  exact ⟨state_range hk d0 d1, a0, a1, i0, i1⟩
theorem number_inj {S : Shelf} (hk : Ok S) {p q : Place} (hp : there S p) (hq : there S q) (hd : p.disk = q.disk) (hn : number S p = number S q) : p = q := by
  obtain ⟨-, -, ⟨r0, -⟩, -, ⟨l0, -⟩, ⟨m0, -⟩, -⟩ := hk.cfg
  have e1 : number S p = offset S.cfg p.area + p.index := by unfold number; rw [if_pos hp]
  have e2 : number S q = offset S.cfg q.area + q.index := by unfold number; rw [if_pos hq]
  rw [e1, e2] at hn
  obtain ⟨-, a1, a4, i0, i1⟩ := hp
  obtain ⟨-, b1, b4, j0, j1⟩ := hq
  obtain ⟨pd, pa, pi⟩ := p
  obtain ⟨qd, qa, qi⟩ := q
  simp only at *
  subst hd
  have ha : pa = 1 ∨ pa = 2 ∨ pa = 3 ∨ pa = 4 := by omega
  have hb : qa = 1 ∨ qa = 2 ∨ qa = 3 ∨ qa = 4 := by omega
  rcases ha with rfl | rfl | rfl | rfl <;> rcases hb with rfl | rfl | rfl | rfl <;> simp [offset, sizes] at hn i1 j1 <;> first | (simp; omega) | (exfalso; omega)

theorem peek_in {S : Shelf} {p : Place} (h : there S p) (hs : state S p.disk = 1) : peek S p = ((Dsk0.read (bayD S p.disk.toNat) (number S p)).1, true) := by unfold peek; rw [if_pos ⟨h, hs⟩]
theorem peek_dead {S : Shelf} {p : Place} (hs : state S p.disk ≠ 1) : peek S p = ([], false) := by unfold peek; rw [if_neg fun h => hs h.2]
instance : DecidableEq Place := fun p q => decidable_of_iff (p.disk = q.disk ∧ p.area = q.area ∧ p.index = q.index) (by
  obtain ⟨a, b, c⟩ := p
  obtain ⟨d, e, f⟩ := q
  simp)
/-- A write after Mount: what each place then holds. -/
theorem distinct {M : Shelf} (hk : Ok M) (h : Calm M) (a : Place) {text : List UInt8} (ht : text.length = 64) (p : Place) (hp : there M p) :
    peek (write M a text).2 p = (if p = a ∧ (write M a text).1 = 0 then text else (peek M p).1, decide (state (write M a text).2 p.disk = 1)) ∧ (∀ d, state (write M a text).2 d = state M d) := by
  have hpk : peek M p = ((peek M p).1, decide (state M p.disk = 1)) := by
    by_cases hs : state M p.disk = 1
    · rw [peek_in hp hs, decide_eq_true hs]
    · rw [peek_dead hs, decide_eq_false hs]
  by_cases ha : there M a
  · by_cases hs : state M a.disk = 1
    · obtain ⟨n0, n1⟩ := number_bd hk ha
      obtain ⟨b, hb, hbs, d0, hbD⟩ := bay_at hs (by decide)
      have hbm := List.mem_of_getElem? hb
      have hbl := hk.len b hbm (by rw [hbs]; decide)
      obtain ⟨n, hn⟩ : ∃ n : Nat, number M a = n := ⟨(number M a).toNat, by omega⟩
      have hnl : n < b.D.length := by omega
      have hsn : b.D[n]? = some b.D[n] := List.getElem?_eq_getElem hnl
      have hf := (h.bays b hbm hbs _ (List.getElem_mem hnl)).2
      have hw : write M a text = (0, turnD M a.disk.toNat fun D => (Dsk0.write D n text).2) := by
        unfold write
        rw [if_pos ⟨ha, ht⟩, step_plain h.off h.fused hs, hn]
      rw [hw]
      simp only [state_turn]
      refine ⟨?_, fun _ => by trivial⟩
      by_cases hps : state M p.disk = 1
      · obtain ⟨pn0, pn1⟩ := number_bd hk hp
        obtain ⟨pd0, pd1⟩ := there_disk hp
        obtain ⟨ad0, ad1⟩ := there_disk ha
        obtain ⟨m, hm⟩ : ∃ m : Nat, number M p = m := ⟨(number M p).toNat, by omega⟩
        rw [peek_in ((there_turn _ _ _ _).2 hp) (by rw [state_turn]; exact hps), peek_in hp hps, number_turn, hm, decide_eq_true hps]
        refine Prod.ext ?_ rfl
        show (Dsk0.read _ _).1 = if _ then _ else (Dsk0.read _ _).1
        by_cases hdd : p.disk = a.disk
        · have hml : m < b.D.length := by omega
          obtain ⟨E, hE⟩ : ∃ E, E = setc (clr b.D n) n text := ⟨_, rfl⟩
          have hlen : E.length = b.D.length := by rw [hE]; simp [setc, clr]
          have hget : E[m]? = if n = m then some ⟨b.D[n].dur, some text, none⟩ else b.D[m]? := by rw [hE]; exact setc_get hsn m
          rw [hdd, bayD_turn (by omega), hbD, write_free hsn hf ht, ← hE]
          unfold Dsk0.read
          rw [if_pos (has_iff.2 ⟨by omega, by simp only; omega⟩), if_pos (has_iff.2 ⟨by omega, by omega⟩), Int.toNat_natCast]
          simp only [hget]
          by_cases hnm : n = m
          · have hpa : p = a := number_inj hk hp ha hdd (by omega)
            rw [if_pos hnm, if_pos ⟨hpa, trivial⟩]; rfl
          · have hne : p ≠ a := fun h => by subst h; omega
            rw [if_neg hnm, if_neg fun h => hne h.1]
        · have hne : p ≠ a := fun h => hdd (by rw [h])
          have hb' : bayD (turnD M a.disk.toNat fun D => (Dsk0.write D n text).2) p.disk.toNat = bayD M p.disk.toNat := by
            unfold bayD
            rw [turn_other _ _ (by omega)]
          rw [hb', if_neg fun h => hne h.1]
      · have hne : p ≠ a := fun h => hps (by rw [h]; exact hs)
        rw [peek_dead (S := turnD M _ _) (by rw [state_turn]; exact hps), peek_dead hps, if_neg fun h => hne h.1, decide_eq_false hps]
    · have hac : access M a.disk = 15 := by unfold access; rw [h.off]; simp [hs]
      have hw : write M a text = (15, M) := by unfold write step; rw [if_pos ⟨ha, ht⟩, hac]; simp
      rw [hw]
      refine ⟨?_, fun _ => rfl⟩
      rw [if_neg (by simp)]
      exact hpk
  · rw [write_out ha]
    refine ⟨?_, fun _ => rfl⟩
    rw [if_neg (by simp)]
    exact hpk
end Go.Shf0
