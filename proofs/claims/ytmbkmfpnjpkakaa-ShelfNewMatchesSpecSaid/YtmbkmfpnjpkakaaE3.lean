/- The reference disk: Pending. -/
import Derived.Test.YtmbkmfpnjpkakaaE2
namespace Go.Proofs.Ytmbkmfpnjpkakaa
open Go.RowKit Go.Im Go.Dsk0

/-- The pending numbers below k. -/
def pendK (D : Dsk) (k : Nat) : List Int := ((List.range k).filter (pends D)).map fun i : Nat => (i : Int)
theorem pendK_all (D : Dsk) : pendK D D.length = pendI D := rfl
theorem pendK_yes {D : Dsk} {k : Nat} (h : pends D k = true) : pendK D (k + 1) = pendK D k ++ [(k : Int)] := by
  unfold pendK
  rw [List.range_succ, List.filter_append, List.map_append]
  simp [h]
theorem pendK_no {D : Dsk} {k : Nat} (h : pends D k = false) : pendK D (k + 1) = pendK D k := by
  unfold pendK
  rw [List.range_succ, List.filter_append, List.map_append]
  simp [h]
theorem pendK_len (D : Dsk) (k : Nat) : (pendK D k).length ≤ k := by
  unfold pendK
  rw [List.length_map]
  exact Nat.le_trans (List.length_filter_le _ _) (by simp)
theorem info3 : (Try.prog.info? 3).map (fun i => (i.zero, i.size, i.bytes)) = some (some (.int .i64 0), 1, 8) := by kernel_rfl
theorem mt46 : Try.prog.underlying 46 = some (.slice 3) := by kernel_rfl

set_option maxRecDepth 100000 in
set_option maxHeartbeats 1000000 in
theorem rpending_calls (g bl : Nat) (D : Dsk) (w : World) (h : RefAt w g bl D) :
    Calls Try.prog 71 #[.pointer (some ⟨g, 0, none⟩)] w fun e w' => ∃ v : Value, e = .returned v ∧ w'.ownsRow w.heap.size 3 1 v (pendI D).length ((pendI D).map encZ) ∧ Fr (fun _ => False) w w' := by
  obtain ⟨av, cap, c0, hg, hcap, hd⟩ := h.open_
  have hglt := lt_of_blk hg
  have hlen := h.ok.len
  have HD := Lib.hid hd; clear hd
  obtain ⟨i0, hi, hz0, hz1, hz2⟩ := info_parts info3
  clear hg h
  go_enter Try.func71, Try.ntmps71
  go_wp2_with fail
  go_loopg [3, 4] D.length (fun m v t wr => ∃ k : Nat, m + k = D.length ∧ t = .int .i64 k ∧ wr.ownsRow w.heap.size 3 1 v (pendK D k).length ((pendK D k).map encZ) ∧ Fr (fun _ => False) w wr)
  case atStart => exact ⟨0, rfl, rfl, World.ownsRow_nil _ _ _ _, Fr.refl _ _⟩
  case round =>
    obtain ⟨k, hm, rfl, hown, hfr⟩ := hrel
    have HM := Lib.hid hm; clear hm
    have HO := Lib.hid hown; clear hown
    have hw := hfr.size
    have c0r : wr.cell? ⟨g, 0, none⟩ = some (.slice av D.length cap) := (hfr.cb hglt (fun h => h)).trans c0
    have hpl := pendK_len D k
    by_cases hk : k < D.length
    · rcases HD.out with hd | ⟨rfl, hgl, cs, hb, hz, hs⟩
      · subst hd; simp at hk
      have hx : D[k]? = some D[k] := List.getElem?_eq_getElem hk
      have hp := (hs k _ hx).pend
      have hps : D[k].cac.isSome = pends D k := by unfold pends; rw [hx]; rfl
      rw [hps] at hp
      have c2 : wr.cell? ⟨bl, k * 4 + 2, none⟩ = some (.bool (pends D k)) := (hfr.cb (lt_of_blk hb) (fun h => h)).trans ((cell_of_blk hb).trans hp)
      have k0 : (0 : Int) ≤ k := by omega
      have k1 : (k : Int) < D.length := by omega
      clear hp hps hx hs hb hgl
      cases hpd : pends D k with
      | true =>
        rw [hpd] at c2
        have HY := Lib.hid (pendK_yes hpd); clear hpd
        go_wp2_with (first
          | (at_builtin; refine im_append1 rfl _ _ 46 rfl w.heap.size mt46 hi hz0 hz1 hz2 rfl (by decide) rfl (row_fr HO.out ((Fr.refl (fun _ => False) _).alloc _) (fun _ _ _ h => h)) rfl (heap_alloc_new wr _) rfl (by simp [Value.oneCell']) (by unfold maxLen; omega) (by omega) (by simp; omega) ?_; intro v2 w2 o2 f2; have O2 := Lib.hid o2; clear o2))
        have hn : gk + k = D.length := HM.out
        go_roundg (gk - 1)
        case measure => omega
        case rel =>
          refine ⟨k + 1, by omega, by go_num, ?_, (hfr.alloc _).trans' f2 (fun _ _ h => h) (fun i hi h => by omega)⟩
          have := O2.out
          rw [HY.out, List.map_append, List.length_append]
          exact this
      | false =>
        rw [hpd] at c2
        have HY := Lib.hid (pendK_no hpd); clear hpd
        go_wp2_with fail
        have hn : gk + k = D.length := HM.out
        go_roundg (gk - 1)
        case measure => omega
        case rel => exact ⟨k + 1, by omega, by go_num, by rw [HY.out]; exact HO.out, hfr⟩
    · have hkn : k = D.length := by have := HM.out; omega
      go_wp2_with fail
      go_ret
      have := HO.out
      rw [hkn, pendK_all] at this
      exact ⟨_, rfl, this, hfr⟩

end Go.Proofs.Ytmbkmfpnjpkakaa
