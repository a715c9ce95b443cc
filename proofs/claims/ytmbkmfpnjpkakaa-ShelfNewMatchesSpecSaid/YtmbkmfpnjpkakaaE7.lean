/- The reference disk: Flush, Cut. -/
import Derived.Test.YtmbkmfpnjpkakaaE6
namespace Go.Dsk0
theorem settle_all (ps : List Int) (hp : ∀ k, k < ps.length → ps[k]? = some 64) : ∀ (l : List Nat) (k : Nat) (D : Dsk) (i : Nat), l.Nodup → k + l.length ≤ ps.length → i ∈ l → (settle ps k l D)[i]? = (D[i]?).map fun s => cutOne s 64
  | x :: l, k, D, i, hnd, hl, hi => by
    have h64 : clamp ((ps[k]?).getD 0) = 64 := by rw [hp k (by simp at hl; omega)]; rfl
    rw [settle, h64]
    obtain ⟨hx, hnd⟩ := List.nodup_cons.1 hnd
    by_cases hix : i = x
    · subst hix
      rw [settle_get_out ps l (k + 1) _ i hx, List.getElem?_modify]
      simp
    · have him : i ∈ l := (List.mem_cons.1 hi).resolve_left hix
      rw [settle_all ps hp l (k + 1) _ i hnd (by simp at hl; omega) him, List.getElem?_modify]
      have : ¬ x = i := fun e => hix e.symm
      cases D[i]? <;> simp [this]

theorem settle_full {D : Dsk} (h : Ok D) (ps : List Int) (hp : ∀ k, k < ps.length → ps[k]? = some 64) (hl : (pend D).length ≤ ps.length) : settle ps 0 (pend D) D = flush D := by
  apply List.ext_getElem?
  intro i
  have hf : (flush D)[i]? = (D[i]?).map fun s => { s with dur := cont s, cac := none } := by simp [flush]
  rw [hf]
  by_cases hi : i ∈ pend D
  · rw [settle_all ps hp _ 0 D i (pend_nodup D) (by omega) hi]
    obtain ⟨s, c, hs, hc⟩ := pend_mem.1 hi
    rw [hs]
    have h1 := h.cac s (List.mem_of_getElem? hs) c hc
    have h2 := h.dur s (List.mem_of_getElem? hs)
    simp only [Option.map_some, cutOne, cont, hc, Option.getD_some]
    rw [List.take_of_length_le (by omega), List.drop_of_length_le (by omega), List.append_nil]
  · rw [settle_get_out ps _ 0 D i hi]
    cases hs : D[i]? with
    | none => rfl
    | some s =>
      have hc : s.cac = none := by
        cases hq : s.cac with
        | none => rfl
        | some c => exact absurd (pend_mem.2 ⟨s, c, hs, hq⟩) hi
      obtain ⟨a, b, c⟩ := s
      simp only at hc
      subst hc
      rfl

/-- The first k sectors unarmed. -/
def unarmK (D : Dsk) (k : Nat) : Dsk := D.mapIdx fun i s => if i < k then { s with flt := none } else s
theorem unarmK_zero (D : Dsk) : unarmK D 0 = D := by
  apply List.ext_getElem?; intro i; simp [unarmK]
theorem unarmK_all (D : Dsk) : unarmK D D.length = unarm D := by
  apply List.ext_getElem?; intro i
  simp only [unarmK, unarm, List.getElem?_mapIdx, List.getElem?_map]
  cases hs : D[i]? with
  | none => rfl
  | some s => simp [(List.getElem?_eq_some_iff.1 hs).1]
theorem unarmK_step (D : Dsk) (k : Nat) : clr (unarmK D k) k = unarmK D (k + 1) := by
  apply List.ext_getElem?; intro i
  simp only [unarmK, clr, List.getElem?_modify, List.getElem?_mapIdx]
  cases hs : D[i]? with
  | none => rfl
  | some s =>
    by_cases h1 : k = i
    · subst h1; simp
    · by_cases h2 : i < k
      · simp [h1, h2, show i < k + 1 by omega]
      · simp [h1, h2, show ¬ i < k + 1 by omega]
theorem unarmK_length (D : Dsk) (k : Nat) : (unarmK D k).length = D.length := by simp [unarmK]
end Go.Dsk0
namespace Go.Proofs.Ytmbkmfpnjpkakaa
open Go.RowKit Go.Im Go.Dsk0

set_option maxRecDepth 100000 in
set_option maxHeartbeats 1000000 in
theorem rflush_calls (g bl : Nat) (D : Dsk) (w : World) (h : RefAt w g bl D) :
    Calls Try.prog 73 #[.pointer (some ⟨g, 0, none⟩)] w fun e w' => e = .returned (.tuple #[]) ∧ RefAt w' g bl (flush D) ∧ Fr (fun q => q = bl) w w' := by
  obtain ⟨av, cap, c0, hg, hcap, hd⟩ := h.open_
  have hglt := lt_of_blk hg
  have hlen := h.ok.len
  have hblt : bl < w.heap.size ∨ D = [] := by
    rcases hd with hd | ⟨-, -, cs, hb, -⟩
    · exact .inr hd
    · exact .inl (lt_of_blk hb)
  have H := Lib.hid h; clear h
  obtain ⟨i0, hi, hz0, hz1, hz2⟩ := info_parts info3
  have HZ := Lib.hid hz1; clear hz1
  have HZ2 := Lib.hid hz2; clear hz2
  clear hg hd
  go_enter Try.func73, Try.ntmps73
  go_wp2_with (first
    | (refine im_make rfl 46 _ _ rfl mt46 hi hz0 D.length rfl rfl rfl rfl (by rw [HZ2.out]; omega) (by omega) ?_; intro w1 b1 f1 z1; have B1 := Lib.hid b1; clear b1; have Z1 := Lib.hid z1; clear z1))
  have z1 := Z1.out
  go_loopg [3] D.length (fun m t wr => ∃ (k : Nat) (cs : Array Value), m + k = D.length ∧ t = .int .i64 k ∧ wr.heap[w.heap.size]? = some (.cells cs 3 (0, 0)) ∧ cs.size = D.length ∧ (∀ j, j < k → cs[j]? = some (.int .i64 64)) ∧ Fr (fun q => q = w.heap.size) w1 wr)
  case atStart => exact ⟨0, _, rfl, rfl, B1.out, by rw [size_madeCells, HZ.out]; omega, fun j hj => by omega, Fr.refl _ _⟩
  case round =>
    obtain ⟨k, cs, hm, rfl, hb, hcs, hall, hfr⟩ := hrel
    have HM := Lib.hid hm; clear hm
    have HB := Lib.hid hb; clear hb
    have HA := Lib.hid hall; clear hall
    have hrs := hfr.size
    by_cases hk : k < D.length
    · have hks : k < cs.size := by omega
      go_wp2_with (first
        | (refine im_store1 rfl 3 _ _ rfl (v := .int .i64 64) rfl rfl rfl (by kernel_rfl) HB.out hks ?_; intro w2 b2 f2 z2; have B2 := Lib.hid b2; clear b2; clear z2))
      have hn : gk + k = D.length := HM.out
      go_roundg (gk - 1)
      case measure => omega
      case rel =>
        refine ⟨k + 1, _, by omega, by go_num, B2.out, by simpa using hcs, fun j hj => ?_, hfr.trans f2⟩
        by_cases hjk : j = k
        · subst hjk; rw [Array.getElem?_setIfInBounds_self_of_lt hks]
        · rw [Array.getElem?_setIfInBounds_ne (fun e => hjk e.symm)]; exact HA.out j (by omega)
    · have hkn : k = D.length := by have := HM.out; omega
      have f2 : Fr (fun _ => False) w wr := f1.trans' hfr (fun _ _ h => h) (fun i hi h => by omega)
      have H2 := Lib.hid (H.out.fr f2 (fun h => h) (fun _ h => h) (fun _ _ _ _ h => h))
      have hints : IntsAt wr (.slice (some ⟨w.heap.size, 0, none⟩) D.length D.length) (List.replicate D.length 64) (fun b => D ≠ [] → b ≠ bl) := by
        refine ⟨_, D.length, by rw [List.length_replicate], by rw [List.length_replicate]; omega, .inr ⟨_, 0, rfl, lt_of_blk HB.out, fun hD => ?_, fun j x hx => ?_⟩⟩
        · rcases hblt with h | h
          · omega
          · exact absurd h hD
        · rw [List.getElem?_replicate] at hx
          split at hx
          · injection hx with hx; subst hx
            rw [Nat.zero_add, cell_of_blk HB.out]; exact HA.out j (by omega)
          · cases hx
      have HI := Lib.hid hints; clear hints
      have hpl : (pend D).length ≤ (List.replicate D.length (64 : Int)).length := by
        rw [List.length_replicate]; unfold pend
        exact Nat.le_trans (List.length_filter_le _ _) (by simp)
      have hset := settle_full H.out.ok (List.replicate D.length 64) (fun k hk => by rw [List.length_replicate] at hk; rw [List.getElem?_replicate, if_pos hk]) hpl
      have HSET := Lib.hid hset; clear hset hpl
      go_wp2_with fail
      refine (rsettle_calls g bl D wr H2.out _ _ HI.out).mono ?_; rintro e w3 ⟨rfl, r3, f3⟩
      rw [HSET.out] at r3
      have R3 := Lib.hid r3; clear r3
      go_wp2_with fail
      go_end0
      exact ⟨rfl, R3.out, f2.none.trans f3⟩

set_option maxRecDepth 100000 in
set_option maxHeartbeats 1000000 in
theorem rcut_calls (g bl : Nat) (D : Dsk) (w : World) (h : RefAt w g bl D) (pv : Value) (ps : List Int) (hp : IntsAt w pv ps (fun b => D ≠ [] → b ≠ bl)) :
    Calls Try.prog 74 #[.pointer (some ⟨g, 0, none⟩), pv] w fun e w' => e = .returned (.tuple #[]) ∧ RefAt w' g bl (cut D ps) ∧ Fr (fun q => q = bl) w w' := by
  have H := Lib.hid h; clear h
  have HP := Lib.hid hp; clear hp
  go_enter Try.func74, Try.ntmps74
  go_wp2_with fail
  refine (rsettle_calls g bl D w H.out pv ps HP.out).mono ?_; rintro e w1 ⟨rfl, r1, f1⟩
  obtain ⟨E, hE⟩ : ∃ E, E = Dsk0.settle ps 0 (pend D) D := ⟨_, rfl⟩
  rw [← hE] at r1
  have HE := Lib.hid hE; clear hE
  have hlen : E.length = D.length := by rw [HE.out]; exact settle_length _ _ _ _
  have hlen2 := r1.ok.len
  have R1 := Lib.hid r1; clear r1
  go_wp2_with fail
  go_loopg [4] E.length (fun m t wr => ∃ k : Nat, m + k = E.length ∧ t = .int .i64 k ∧ RefAt wr g bl (unarmK E k) ∧ Fr (fun q => q = bl) w1 wr)
  case atStart => exact ⟨0, rfl, rfl, by rw [unarmK_zero]; exact R1.out, Fr.refl _ _⟩
  case round =>
    obtain ⟨k, hm, rfl, hr, hfr⟩ := hrel
    have HM := Lib.hid hm; clear hm
    have HR := Lib.hid hr; clear hr
    obtain ⟨avk, capk, c0k, hgk, hcapk, hdk⟩ := HR.out.open_
    rw [unarmK_length] at c0k hgk hcapk
    by_cases hk : k < E.length
    · rcases hdk with hdk | ⟨rfl, hgl, cs, hbk, hszk, hsk⟩
      · have := unarmK_length E k; rw [hdk] at this; simp at this; omega
      rw [unarmK_length] at hszk
      have HB := Lib.hid hbk; clear hbk
      have HS := Lib.hid hsk; clear hsk
      have HG := Lib.hid hgk; clear hgk
      have hkz : k * 4 + 3 < cs.size := by omega
      have k0 : (0 : Int) ≤ k := by omega
      go_wp2_with (first
        | (refine im_store1 rfl 3 _ _ rfl (v := .int .i64 (-2)) rfl rfl rfl (by kernel_rfl) HB.out hkz ?_; intro w2 b2 f2 z2; have B2 := Lib.hid b2; clear b2; clear z2))
      have hn : gk + k = E.length := HM.out
      go_roundg (gk - 1)
      case measure => omega
      case rel =>
        refine ⟨k + 1, by omega, by go_num, ?_, hfr.trans f2⟩
        rw [← unarmK_step]
        exact RefAt.cleared HR.out.ok hgl (by rw [unarmK_length]; exact HG.out) (by rw [unarmK_length]; exact hcapk) HB.out (by rw [unarmK_length]; exact hszk) HS.out (by rw [unarmK_length]; exact hk) f2 B2.out
    · have hkn : k = E.length := by have := HM.out; omega
      clear hgk hdk
      go_wp2_with fail
      go_end0
      have := HR.out
      rw [hkn, unarmK_all, HE.out] at this
      exact ⟨rfl, this, f1.trans hfr⟩

end Go.Proofs.Ytmbkmfpnjpkakaa
