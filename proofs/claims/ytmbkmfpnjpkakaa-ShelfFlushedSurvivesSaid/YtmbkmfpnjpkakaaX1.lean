/- The program's shelf: Replace, Insert. -/
import Derived.Test.YtmbkmfpnjpkakaaW2
namespace Go.Im
open Go
/-- A store of a whole array into the middle of a block, inside a region. -/
theorem wp_storeM {P : Program} {Q : Exit → Act → World → Prop} {o : Oper} {a : Act} {w : World} {K : Act → World → Prop} (ty : TypeId) (x y : Operand) (hop : o.op = Op.store ty x y) {b p : Nat} {vs : Array Value} (hx : a.eval x = .pointer (some ⟨b, p, none⟩)) (hy : a.eval y = .agg vs)
    {cs : Array Value} {t : TypeId} (hb : w.heap[b]? = some (.cells cs t (0, 0))) (hsz : p + vs.size ≤ cs.size) (hi : (P.info? ty).map (·.size) = some vs.size) (h1 : vs.all (·.oneCell') = true)
    (hK : ∀ w', w'.heap[b]? = some (.cells (splice cs p vs.toList) t (0, 0)) → Fr (fun i => i = b) w w' → w'.heap.size = w.heap.size → K (a.put o.dst undef) w') : o.wp P a w K Q := by
  refine wp_store_mid ty x y hop b p vs hx hy (there_of_blk hb hsz) hi h1 ?_
  obtain ⟨f1, f2⟩ := setCells_fr b vs.toList p w
  exact hK _ (setCells_block b vs.toList p w _ _ _ hb) f1 f2
end Go.Im
namespace Go.Proofs.Ytmbkmfpnjpkakaa
open Go.RowKit Go.Im Go.Dsk0

section
variable {w : World} {O : Nat → Prop} {s : Nat} {S : Shf0.Shelf}

/-- A bay with a new disk: the store of its two cells. -/
theorem ShelfIn.fill {w w1 w2 : World} {bs : List (Loc × Shf0.Bay)} {im : List (Loc × Dsk)} {bv iv : Value} (h : ShelfIn w O s S bs im bv iv) {k : Nat} (hk : k < bs.length) {vb cap : Nat} {cur : Array Value} (hbv : bv = .slice (some ⟨vb, 0, none⟩) bs.length cap) (hvb : w.heap[vb]? = some (.cells cur 106 (0, 0)))
    (f1 : Fr (fun _ => False) w w1) {L : Loc} {b : Shf0.Bay} (hd : DK w1 L b.D) (hL : ∀ q, L.has q → w.heap.size ≤ q) (f2 : Fr (fun q => q = vb) w1 w2) (hb2 : w2.heap[vb]? = some (.cells (splice cur (k * 2) [L.ptr, .int .i64 b.st]) 106 (0, 0)))
    (hok : Shf0.Ok { S with bays := S.bays.set k b }) (hO : O vb) : ShelfAt w2 (grow O w w2) s { S with bays := S.bays.set k b } ∧ Fr O w w2 := by
  have h1 := h.fr f1 (fun _ _ h => h)
  have hvb1 := (f1.block vb (lt_of_blk hvb) (fun h => h)).trans hvb
  have hnew : ∀ M : Loc, (∀ q, M.has q → q < w.heap.size) → Apart L M := fun M hM q hq hq' => by
    have := hL q hq
    have := hM q hq'
    omega
  have h2 := h1.setBay (O' := fun q => O q ∨ (w.heap.size ≤ q ∧ q < w1.heap.size)) hk hbv hvb1 (L := L) (b := b) f2 hb2 hd
    (fun j x _ hx => hnew x.1 fun q hq => h.olt q (h.od x.1 (by simp only [List.mem_append, List.mem_map]; exact .inl ⟨x, List.mem_of_getElem? hx, rfl⟩) q hq))
    (fun x hx => hnew x.1 fun q hq => h.olt q (h.od x.1 (by simp only [List.mem_append, List.mem_map]; exact .inr ⟨x, hx, rfl⟩) q hq))
    (fun q hq => .inl hq) (fun q hq => .inr ⟨hL q hq, hd.lthas hq⟩) (fun q hq => hq.elim (fun hq => h1.olt q hq) (·.2)) hok
  exact ⟨ShelfAt.mono ⟨_, _, _, _, h2⟩ (fun q hq => hq.imp id fun hq => ⟨hq.1, Nat.lt_of_lt_of_le hq.2 f2.size⟩) (fun q hq => hq.elim (fun hq => Nat.lt_of_lt_of_le (h1.olt q hq) f2.size) (·.2)), f1.no.trans (f2.mono fun q _ hq => by rw [hq]; exact hO)⟩

set_option maxRecDepth 100000 in
set_option maxHeartbeats 2000000 in
theorem replace_calls (h : ShelfAt w O s S) (d : Int) : Calls Try.prog 113 #[.pointer (some ⟨s, 0, none⟩), .int .i64 d] w fun e w' => e = .returned (.int .i64 (Shf0.replace S d).1) ∧ ShelfAt w' (grow O w w') s (Shf0.replace S d).2 ∧ Fr O w w' := by
  have H := Lib.hid h
  obtain ⟨R, hR⟩ : ∃ R, R = Shf0.replace S d := ⟨_, rfl⟩
  obtain ⟨wt, hwt⟩ : ∃ wt, wt = Shf0.want S d false 19 := ⟨_, rfl⟩
  have hR' : R = if wt = 0 then (0, { S with bays := S.bays.set d.toNat ⟨new (Shf0.sectors S.cfg), 1⟩ }) else (wt, S) := by rw [hR, hwt]; rfl
  rw [← hR]
  clear hR
  by_cases h0 : wt = 0
  · rw [if_pos h0] at hR'
    obtain ⟨d0, d1, -⟩ := Shf0.want_zero (er := 19) (by decide) (hwt.symm.trans h0)
    obtain ⟨k, rfl⟩ : ∃ k : Nat, d = k := ⟨d.toNat, by omega⟩
    rw [Int.toNat_natCast] at hR'
    obtain ⟨bs, im, bv, iv, hin⟩ := h
    obtain ⟨L0, b0, hx, hsb, hk⟩ := hin.at (k := k) (by omega)
    obtain ⟨vb, cap, cur, hbv, hvb, hcz, hOv, -⟩ := hin.open_
    have hv := hin.ok.cfg
    obtain ⟨-, -, v3, v4, v5, v6, v7, v8⟩ := valid_bd hv
    have hsec : 0 ≤ Shf0.sectors S.cfg := by unfold Shf0.sectors; omega
    have hsec2 := hin.ok.sec
    have hnl : ((new (Shf0.sectors S.cfg)).length : Int) = Shf0.sectors S.cfg := by rw [new_length]; omega
    have hok := hin.ok.setBay (k := k) (b := ⟨new (Shf0.sectors S.cfg), 1⟩) (Dsk0.Ok.new _) (fun _ => hnl) (.inl rfl)
    have HOK := Lib.hid hok; clear hok
    have hsc := fun W => sectors_calls S.cfg W hv
    obtain ⟨n, hn⟩ : ∃ n, n = Shf0.sectors S.cfg := ⟨_, rfl⟩
    rw [← hn] at hsc hR' HOK
    have c6 : w.cell? ⟨s, 6, none⟩ = some (.slice (some ⟨vb, 0, none⟩) bs.length cap) := by rw [← hbv]; exact cell_of_blk hin.head
    have hslt := lt_of_blk hin.head
    have hvlt := lt_of_blk hvb
    obtain ⟨n0, hn0⟩ : ∃ n0, n0 = S.cfg.disks := ⟨_, rfl⟩
    obtain ⟨n1, hn1⟩ : ∃ n1, n1 = S.cfg.racks := ⟨_, rfl⟩
    obtain ⟨n2, hn2⟩ : ∃ n2, n2 = S.cfg.rows := ⟨_, rfl⟩
    obtain ⟨n3, hn3⟩ : ∃ n3, n3 = S.cfg.spare := ⟨_, rfl⟩
    obtain ⟨n4, hn4⟩ : ∃ n4, n4 = S.cfg.log := ⟨_, rfl⟩
    obtain ⟨n5, hn5⟩ : ∃ n5, n5 = S.cfg.image := ⟨_, rfl⟩
    have u0 : w.cell? ⟨s, 0, none⟩ = some (.int .i64 n0) := by rw [hn0]; exact cell_of_blk hin.head
    have u1 : w.cell? ⟨s, 1, none⟩ = some (.int .i64 n1) := by rw [hn1]; exact cell_of_blk hin.head
    have u2 : w.cell? ⟨s, 2, none⟩ = some (.int .i64 n2) := by rw [hn2]; exact cell_of_blk hin.head
    have u3 : w.cell? ⟨s, 3, none⟩ = some (.int .i64 n3) := by rw [hn3]; exact cell_of_blk hin.head
    have u4 : w.cell? ⟨s, 4, none⟩ = some (.int .i64 n4) := by rw [hn4]; exact cell_of_blk hin.head
    have u5 : w.cell? ⟨s, 5, none⟩ = some (.int .i64 n5) := by rw [hn5]; exact cell_of_blk hin.head
    have hcv : cfgV S.cfg = .agg #[.int .i64 n0, .int .i64 n1, .int .i64 n2, .int .i64 n3, .int .i64 n4, .int .i64 n5] := by unfold cfgV; rw [hn0, hn1, hn2, hn3, hn4, hn5]
    rw [hcv] at hsc
    have HSC := Lib.hid hsc; clear hsc hcv
    clear hn0 hn1 hn2 hn3 hn4 hn5 hn
    subst hR'
    have HB := Lib.hid hvb
    have HIN := Lib.hid hin
    have HBV := Lib.hid hbv
    have HWT := Lib.hid hwt
    have hbw : (wt == 0) = true := by simp [h0]
    have k0 : (0 : Int) ≤ k := by omega
    have k1 : (k : Int) < bs.length := by omega
    have hkc : k * 2 + 2 ≤ cur.size := by omega
    have H0 := Lib.hid h0
    clear hin hx hvb hbv hwt hsb h0 d1 hv v3 v4 v5 v6 v7 v8 hsec hsec2 hnl
    go_enter Try.func113, Try.ntmps113
    go_wp2_with fail
    refine (want_calls H.out (k : Int) false 19).mono ?_; rintro e w1 ⟨rfl, rfl⟩
    rw [← HWT.out]
    go_wp2_with fail
    have hS : (fun W : World => W.cell? ⟨s, 6, none⟩ = some (.slice (some ⟨vb, 0, none⟩) bs.length cap) ∧ W.cell? ⟨s, 0, none⟩ = some (.int .i64 n0) ∧ W.cell? ⟨s, 1, none⟩ = some (.int .i64 n1) ∧ W.cell? ⟨s, 2, none⟩ = some (.int .i64 n2) ∧ W.cell? ⟨s, 3, none⟩ = some (.int .i64 n3) ∧ W.cell? ⟨s, 4, none⟩ = some (.int .i64 n4) ∧ W.cell? ⟨s, 5, none⟩ = some (.int .i64 n5)) w.drew := ⟨c6, u0, u1, u2, u3, u4, u5⟩
    refine wp_region_seqF (fun W => W.cell? ⟨s, 6, none⟩ = some (.slice (some ⟨vb, 0, none⟩) bs.length cap) ∧ W.cell? ⟨s, 0, none⟩ = some (.int .i64 n0) ∧ W.cell? ⟨s, 1, none⟩ = some (.int .i64 n1) ∧ W.cell? ⟨s, 2, none⟩ = some (.int .i64 n2) ∧ W.cell? ⟨s, 3, none⟩ = some (.int .i64 n3) ∧ W.cell? ⟨s, 4, none⟩ = some (.int .i64 n4) ∧ W.cell? ⟨s, 5, none⟩ = some (.int .i64 n5)) [0, 1, 2, 3, 4, 5, 6, 7, 8, 9, 10, 11, 12, 13] [9, 10, 13] 13 (by kernel_rfl) (by kernel_rfl) (by kernel_rfl) ?_
    simp only [pickOps, List.filterMap_cons, List.filterMap_nil, List.getElem?_toArray, List.getElem?_cons_zero, List.getElem?_cons_succ, Option.map_some]
    repeat (refine seqF_read (v := ?_) (by rfl) (by rfl) hS ?_ ?_; rotate_left; (focus (intro W hS; (try dsimp only at hS); obtain ⟨s1, s2, s3, s4, s5, s6, s7⟩ := hS; go_simp; try with_reducible rfl)); simp only [Act.put, List.setIfInBounds_toArray, List.set_cons_zero, List.set_cons_succ])
    refine seqF_eff (by rfl) (by rfl) fun K hK => ?_
    refine wp_callC 61 #[.agg #[.int .i64 n0, .int .i64 n1, .int .i64 n2, .int .i64 n3, .int .i64 n4, .int .i64 n5]] (by go_simp) (R := fun v w' => v = .int .i64 n ∧ Fr (fun _ => False) w w') ((HSC.out w.drew).mono (by rintro e w' ⟨rfl, hf⟩; exact ⟨_, rfl, rfl, hf.undrew⟩)) ?_
    rintro v x1 ⟨rfl, g1⟩
    have hS1 : (fun W : World => W.cell? ⟨s, 6, none⟩ = some (.slice (some ⟨vb, 0, none⟩) bs.length cap) ∧ W.cell? ⟨s, 0, none⟩ = some (.int .i64 n0) ∧ W.cell? ⟨s, 1, none⟩ = some (.int .i64 n1) ∧ W.cell? ⟨s, 2, none⟩ = some (.int .i64 n2) ∧ W.cell? ⟨s, 3, none⟩ = some (.int .i64 n3) ∧ W.cell? ⟨s, 4, none⟩ = some (.int .i64 n4) ∧ W.cell? ⟨s, 5, none⟩ = some (.int .i64 n5)) x1 :=
      ⟨(g1.cb hslt (fun h => h)).trans c6, (g1.cb hslt (fun h => h)).trans u0, (g1.cb hslt (fun h => h)).trans u1, (g1.cb hslt (fun h => h)).trans u2, (g1.cb hslt (fun h => h)).trans u3, (g1.cb hslt (fun h => h)).trans u4, (g1.cb hslt (fun h => h)).trans u5⟩
    refine hK.out _ _ (fun _ => hS1) ?_
    simp only [Act.put, List.setIfInBounds_toArray, List.set_cons_zero, List.set_cons_succ]
    refine seqF_eff (by rfl) (by rfl) fun K hK => ?_
    refine wp_callC 24 #[.int .i64 n] (by go_simp) (R := fun v w' => ∃ L : Loc, v = .pointer (some ⟨L.g, 0, none⟩) ∧ DK w' L (new n) ∧ (∀ q, L.has q → x1.heap.size ≤ q) ∧ Fr (fun _ => False) x1 w') ((new_calls n x1).mono (by
      rintro e w' ⟨g, bd, bc, ba, rfl, hd, hf, hbd, hbc, hba, hg⟩
      obtain ⟨L, hLg, hL, hLh⟩ := DK.of hd x1.heap.size hg hbd hbc hba
      exact ⟨_, rfl, L, by rw [hLg], hL, hLh, hf⟩)) ?_
    rintro v x2 ⟨L, rfl, hL, hLh, g2⟩
    have hslt1 := Nat.lt_of_lt_of_le hslt g1.size
    have hS2 : (fun W : World => W.cell? ⟨s, 6, none⟩ = some (.slice (some ⟨vb, 0, none⟩) bs.length cap) ∧ W.cell? ⟨s, 0, none⟩ = some (.int .i64 n0) ∧ W.cell? ⟨s, 1, none⟩ = some (.int .i64 n1) ∧ W.cell? ⟨s, 2, none⟩ = some (.int .i64 n2) ∧ W.cell? ⟨s, 3, none⟩ = some (.int .i64 n3) ∧ W.cell? ⟨s, 4, none⟩ = some (.int .i64 n4) ∧ W.cell? ⟨s, 5, none⟩ = some (.int .i64 n5)) x2 :=
      ⟨(g2.cb hslt1 (fun h => h)).trans hS1.1, (g2.cb hslt1 (fun h => h)).trans hS1.2.1, (g2.cb hslt1 (fun h => h)).trans hS1.2.2.1, (g2.cb hslt1 (fun h => h)).trans hS1.2.2.2.1, (g2.cb hslt1 (fun h => h)).trans hS1.2.2.2.2.1, (g2.cb hslt1 (fun h => h)).trans hS1.2.2.2.2.2.1, (g2.cb hslt1 (fun h => h)).trans hS1.2.2.2.2.2.2⟩
    have hDL := Lib.hid hL; clear hL
    have hLH := Lib.hid hLh; clear hLh
    have g12 := g1.trans g2
    have HB2 := Lib.hid ((g12.block vb hvlt (fun h => h)).trans HB.out)
    refine hK.out _ _ (fun _ => hS2) ?_
    simp only [Act.put, List.setIfInBounds_toArray, List.set_cons_zero, List.set_cons_succ]
    repeat (refine seqF_read (v := ?_) (by rfl) (by rfl) hS2 ?_ ?_; rotate_left; (focus (intro W hS; (try dsimp only at hS); obtain ⟨s1, s2, s3, s4, s5, s6, s7⟩ := hS; go_simp; try with_reducible rfl)); simp only [Act.put, List.setIfInBounds_toArray, List.set_cons_zero, List.set_cons_succ])
    refine seqF_eff (by rfl) (by rfl) fun K hK => ?_
    refine wp_storeM 106 _ _ rfl (vs := #[.pointer (some ⟨L.g, 0, none⟩), .int .i64 1]) rfl rfl HB2.out hkc info106 (bay_one _ rfl _) ?_
    intro x3 b3 g3 z3
    have B3 := Lib.hid b3; clear b3 z3
    refine hK.out _ _ (fun h => absurd rfl h) ?_
    refine seqF_nil ?_
    have hfin := HIN.out.fill hk HBV.out HB.out g12 (L := L) (b := ⟨new n, 1⟩) hDL.out (fun q hq => by have := hLH.out q hq; have := g1.size; omega) g3 B3.out HOK.out hOv
    have HFIN := Lib.hid hfin; clear hfin
    clear hK hS hS1 hS2 g1 g2 g3 g12 c6 u0 u1 u2 u3 u4 u5
    go_wp2_with fail
    go_ret
    exact ⟨by rw [H0.out]; rfl, HFIN.out.1, HFIN.out.2⟩
  · rw [if_neg h0] at hR'
    subst hR'
    have HWT := Lib.hid hwt
    have hbw : (wt == 0) = false := by simp [h0]
    clear hwt h0 h
    go_enter Try.func113, Try.ntmps113
    go_wp2_with fail
    refine (want_calls H.out d false 19).mono ?_; rintro e w1 ⟨rfl, rfl⟩
    rw [← HWT.out]
    go_wp2_with fail
    go_ret
    exact ⟨rfl, H.out.grow, Fr.refl _ _⟩
end
end Go.Proofs.Ytmbkmfpnjpkakaa
