/- The program's disk: Write, at its maps. -/
import Derived.Test.YtmbkmfpnjpkakaaD0
import Derived.Test.YtmbkmfpnjpkakaaP1
import Derived.Test.YtmbkmfpnjpkakaaA3
namespace Go.Proofs.Ytmbkmfpnjpkakaa
open Go.RowKit Go.Im Go.Dsk0

theorem misdirect_yes (g n c : Nat) (av : Option Addr) (ba : Nat) (i t : Int) (w : World) (f : Int → Option Value) (c0 : w.cell? ⟨g, 0, none⟩ = some (.slice av n c)) (c2 : w.cell? ⟨g, 2, none⟩ = some (.map (some ba)))
    (hm : At w ba f) (hi : hasB n i = true) (ht : hasB n t = true) :
    Calls Try.prog 41 #[.pointer (some ⟨g, 0, none⟩), .int .i64 i, .int .i64 t] w fun e w' => e = .returned (.int .i64 0) ∧ At w' ba (upd f i (some (.int .i64 t))) ∧ Fr (fun k => k = ba) w w' := by
  have Hi := Lib.hid hi; clear hi
  have Ht := Lib.hid ht; clear ht
  have Hm := Lib.hid hm; clear hm
  go_enter Try.func41, Try.ntmps41
  go_wp2_with fail
  refine (has_yes c0 Hi.out).mono ?_; rintro e w' ⟨rfl, rfl⟩
  go_wp2_with fail
  refine (has_yes c0 Ht.out).mono ?_; rintro e w' ⟨rfl, rfl⟩
  go_wp2_with (first
    | (at_mapUpdate; refine im_mapUpdate rfl _ _ _ 117 rfl mt117 kt i _ rfl rfl rfl Hm.out ?_; intro w1 h1 f1 z1; have H1 := Lib.hid h1; clear h1; clear z1))
  go_ret
  exact ⟨rfl, H1.out, f1⟩

theorem misdirect_no (g n c : Nat) (av : Option Addr) (i t : Int) (w : World) (c0 : w.cell? ⟨g, 0, none⟩ = some (.slice av n c)) (hi : hasB n i = false ∨ hasB n t = false) :
    Calls Try.prog 41 #[.pointer (some ⟨g, 0, none⟩), .int .i64 i, .int .i64 t] w fun e w' => e = .returned (.int .i64 1) ∧ w = w' := by
  cases h : hasB n i with
  | false =>
    have Hi := Lib.hid h; clear h; clear hi
    go_enter Try.func41, Try.ntmps41
    go_wp2_with fail
    refine (has_no c0 Hi.out).mono ?_; rintro e w' ⟨rfl, rfl⟩
    go_wp2_with fail
    go_ret
    exact ⟨rfl, rfl⟩
  | true =>
    have ht : hasB n t = false := hi.resolve_left (by rw [h]; decide)
    have Hi := Lib.hid h; clear h; clear hi
    have Ht := Lib.hid ht; clear ht
    go_enter Try.func41, Try.ntmps41
    go_wp2_with fail
    refine (has_yes c0 Hi.out).mono ?_; rintro e w' ⟨rfl, rfl⟩
    go_wp2_with fail
    refine (has_no c0 Ht.out).mono ?_; rintro e w' ⟨rfl, rfl⟩
    go_wp2_with fail
    go_ret
    exact ⟨rfl, rfl⟩

theorem write_no (g n c : Nat) (av : Option Addr) (i : Int) (s : ByteArray) (w : World) (c0 : w.cell? ⟨g, 0, none⟩ = some (.slice av n c)) (hi : hasB n i = false ∨ ((s.size : Int) == 64) = false) :
    Calls Try.prog 39 #[.pointer (some ⟨g, 0, none⟩), .int .i64 i, .string s] w fun e w' => e = .returned (.int .i64 1) ∧ w = w' := by
  cases h : hasB n i with
  | false =>
    have Hi := Lib.hid h; clear h; clear hi
    go_enter Try.func39, Try.ntmps39
    go_wp2_with fail
    refine (has_no c0 Hi.out).mono ?_; rintro e w' ⟨rfl, rfl⟩
    go_wp2_with fail
    go_ret
    exact ⟨rfl, rfl⟩
  | true =>
    have hs : ((s.size : Int) != 64) = true := by
      have := hi.resolve_left (by rw [h]; decide)
      simpa using this
    have Hi := Lib.hid h; clear h; clear hi
    go_enter Try.func39, Try.ntmps39
    go_wp2_with fail
    refine (has_yes c0 Hi.out).mono ?_; rintro e w' ⟨rfl, rfl⟩
    go_wp2_with fail
    go_ret
    exact ⟨rfl, rfl⟩

theorem write_lost (g n c : Nat) (av : Option Addr) (ba : Nat) (i : Int) (s : ByteArray) (w : World) (f : Int → Option Value) (c0 : w.cell? ⟨g, 0, none⟩ = some (.slice av n c)) (c2 : w.cell? ⟨g, 2, none⟩ = some (.map (some ba)))
    (hm : At w ba f) (hi : hasB n i = true) (hs : ((s.size : Int) != 64) = false) (hf : f i = some (.int .i64 (-1))) :
    Calls Try.prog 39 #[.pointer (some ⟨g, 0, none⟩), .int .i64 i, .string s] w fun e w' => e = .returned (.int .i64 0) ∧ At w' ba (upd f i none) ∧ Fr (fun k => k = ba) w w' := by
  have Hi := Lib.hid hi; clear hi
  have Hm := Lib.hid hm; clear hm
  go_enter Try.func39, Try.ntmps39
  go_wp2_with fail
  refine (has_yes c0 Hi.out).mono ?_; rintro e w' ⟨rfl, rfl⟩
  go_wp2_with (first
    | (at_lookup; refine im_lookup_ok rfl _ _ 117 rfl mt117 kt (zero3 _) i rfl rfl Hm.out ?_)
    | (at_delete; refine im_delete rfl _ _ 117 _ rfl mt117 kt i rfl rfl Hm.out ?_; intro w1 h1 f1 z1; have H1 := Lib.hid h1; clear h1; clear z1))
  go_ret
  exact ⟨rfl, H1.out, f1⟩

theorem info126 : (Try.prog.info? 126).map (·.size) = some 64 := by kernel_rfl
theorem row126 : Try.prog.underlying 126 = some (.array 64 5) := by kernel_rfl
theorem u9 : Try.prog.underlying 9 = some .string := by kernel_rfl
theorem u70 : Try.prog.underlying 70 = some (.slice 5) := by kernel_rfl
theorem u5 : Try.prog.underlying 5 = some (.int .u8) := by kernel_rfl

set_option maxRecDepth 100000 in
theorem write_own (g n c : Nat) (av : Option Addr) (ba bc : Nat) (i : Int) (s : ByteArray) (w : World) (f fc : Int → Option Value) (c0 : w.cell? ⟨g, 0, none⟩ = some (.slice av n c)) (c1 : w.cell? ⟨g, 1, none⟩ = some (.map (some bc)))  (c2 : w.cell? ⟨g, 2, none⟩ = some (.map (some ba)))
    (hm : At w ba f) (hc : At w bc fc) (hne : bc ≠ ba) (hga : g ≠ ba) (hgc : g ≠ bc) (hi : hasB n i = true) (hs : ((s.size : Int) != 64) = false) (hf : f i = none) :
    Calls Try.prog 39 #[.pointer (some ⟨g, 0, none⟩), .int .i64 i, .string s] w fun e w' => e = .returned (.int .i64 0) ∧ At w' ba (upd f i none) ∧ At w' bc (upd fc i (some (.agg (cellsB s.data.toList)))) ∧ Fr (fun k => k = ba ∨ k = bc) w w' := by
  have Hi := Lib.hid hi; clear hi
  have Hm := Lib.hid hm; clear hm
  have Hc := Lib.hid hc; clear hc
  have Hs := Lib.hid hs
  have hn1 : ((i != (-1 : Int))) = true := by have := Hi.out; simp [hasB] at this; simp; omega
  have gl := World.block_lt_of_cell? w _ c1
  have h64 : 64 ≤ s.size := by have : (s.size : Int) = 64 := by simpa using hs
                               omega
  have hlen : (Try.prog.info? 126).map (·.size) = some (s.data.toList.map B).length := by
    have : (s.size : Int) = 64 := by simpa using hs
    have e : (s.data.toList.map B).length = 64 := by simp; exact (by omega : s.size = 64)
    rw [info126, e]
  have HL := Lib.hid hlen; clear hlen
  go_enter Try.func39, Try.ntmps39
  go_wp2_with fail
  refine (has_yes c0 Hi.out).mono ?_; rintro e w' ⟨rfl, rfl⟩
  go_wp2_with (first
    | (at_lookup; refine im_lookup_ok rfl _ _ 117 rfl mt117 kt (zero3 _) i rfl rfl Hm.out ?_)
    | (at_delete; refine im_delete rfl _ _ 117 _ rfl mt117 kt i rfl rfl Hm.out ?_; intro w1 h1 f1 z1; have H1 := Lib.hid h1; have hc1 := Hc.out.same (f1.block bc Hc.out.lt hne); have Hc1 := Lib.hid hc1; clear h1; clear z1; clear hc1; have c11 := (f1.cell (p := ⟨g, 1, none⟩) gl hga).trans c1))
  have gl1 : g < w1.heap.size := Nat.lt_of_lt_of_le gl f1.size
  refine wp_region_seq (fun w' => w'.cell? ⟨g, 1, none⟩ = some (.map (some bc))) [0, 1, 2, 3, 4, 5, 6, 7, 8, 9] [6, 7, 8, 9] (by kernel_rfl) (by kernel_rfl) (by kernel_rfl) c11 ?_
  simp only [pickOps, List.filterMap_cons, List.filterMap_nil, List.getElem?_toArray, List.getElem?_cons_zero, List.getElem?_cons_succ, Option.map_some]
  repeat (refine seqH_read (v := ?_) (by rfl) (by rfl) ?_ ?_; rotate_left; (focus (intro w hS; (try dsimp only at hS); go_simp; try with_reducible rfl)); simp only [Act.put, List.setIfInBounds_toArray, List.set_cons_zero, List.set_cons_succ])
  refine seqH_eff (by rfl) (by rfl) fun K hK => ?_
  refine wp_bytes 9 70 _ rfl s rfl u9 u70 u5 ?_
  intro w2 cap cs fr hb hsz hcs hfz hcap f2 z2
  replace f2 := f2.undrew
  have sz2 := f2.size
  have c12 := (f2.cell (p := ⟨g, 1, none⟩) gl1 (fun h => h)).trans c11
  refine hK.out _ _ c12 ?_
  simp only [Act.put, List.setIfInBounds_toArray, List.set_cons_zero, List.set_cons_succ]
  refine seqH_eff (by rfl) (by rfl) fun K hK => ?_
  refine wp_s2ap 126 _ rfl rfl row126 h64 ?_
  refine hK.out _ _ c12 ?_
  simp only [Act.put, List.setIfInBounds_toArray, List.set_cons_zero, List.set_cons_succ]
  refine seqH_eff (by rfl) (by rfl) fun K hK => ?_
  refine wp_load_mid 126 _ rfl _ 0 rfl (s.data.toList.map B) _ (range_bytes hb hcs) row126 rfl HL.out ?_
  refine hK.out _ _ c12 ?_
  simp only [Act.put, List.setIfInBounds_toArray, List.set_cons_zero, List.set_cons_succ]
  refine seqH_eff (by rfl) (by rfl) fun K hK => ?_
  refine wp_mapUpdate _ _ _ 116 rfl mt116 kt i _ rfl rfl rfl (Hc1.out.same (f2.block bc Hc1.out.lt (fun h => h))) ?_
  intro w3 h3 f3 z3
  refine hK.out _ _ ((f3.cb (by omega) hgc).trans c12) ?_
  refine seqH_nil ?_
  have H3 := Lib.hid h3
  clear h3
  go_wp2
  go_ret
  refine ⟨rfl, H1.out.same ((f3.block ba (by have := H1.out.lt; omega) (fun h => hne h.symm)).trans (f2.block ba H1.out.lt (fun h => h))), H3.out, ?_⟩
  exact ((f1.trans' f2 (U := fun k => k = ba ∨ k = bc) (fun _ _ h => .inl h) (fun _ _ h => h.elim)).trans' f3 (fun _ _ h => h) (fun _ _ h => .inr h))
set_option maxRecDepth 100000 in
theorem write_wrong (g n c : Nat) (av : Option Addr) (ba bc : Nat) (i : Int) (s : ByteArray) (w : World) (f fc : Int → Option Value) (c0 : w.cell? ⟨g, 0, none⟩ = some (.slice av n c)) (c1 : w.cell? ⟨g, 1, none⟩ = some (.map (some bc)))  (c2 : w.cell? ⟨g, 2, none⟩ = some (.map (some ba)))
    (hm : At w ba f) (hc : At w bc fc) (hne : bc ≠ ba) (hga : g ≠ ba) (hgc : g ≠ bc) (hi : hasB n i = true) (hs : ((s.size : Int) != 64) = false) (t : Int) (ht : hasB n t = true) (hf : f i = some (.int .i64 t)) :
    Calls Try.prog 39 #[.pointer (some ⟨g, 0, none⟩), .int .i64 i, .string s] w fun e w' => e = .returned (.int .i64 0) ∧ At w' ba (upd f i none) ∧ At w' bc (upd fc t (some (.agg (cellsB s.data.toList)))) ∧ Fr (fun k => k = ba ∨ k = bc) w w' := by
  have Hi := Lib.hid hi; clear hi
  have Hm := Lib.hid hm; clear hm
  have Hc := Lib.hid hc; clear hc
  have Hs := Lib.hid hs
  have hn1 : ((t != (-1 : Int))) = true := by have := ht; simp [hasB] at this; simp; omega
  have Ht := Lib.hid ht; clear ht
  have gl := World.block_lt_of_cell? w _ c1
  have h64 : 64 ≤ s.size := by have : (s.size : Int) = 64 := by simpa using hs
                               omega
  have hlen : (Try.prog.info? 126).map (·.size) = some (s.data.toList.map B).length := by
    have : (s.size : Int) = 64 := by simpa using hs
    have e : (s.data.toList.map B).length = 64 := by simp; exact (by omega : s.size = 64)
    rw [info126, e]
  have HL := Lib.hid hlen; clear hlen
  go_enter Try.func39, Try.ntmps39
  go_wp2_with fail
  refine (has_yes c0 Hi.out).mono ?_; rintro e w' ⟨rfl, rfl⟩
  go_wp2_with (first
    | (at_lookup; refine im_lookup_ok rfl _ _ 117 rfl mt117 kt (zero3 _) i rfl rfl Hm.out ?_)
    | (at_delete; refine im_delete rfl _ _ 117 _ rfl mt117 kt i rfl rfl Hm.out ?_; intro w1 h1 f1 z1; have H1 := Lib.hid h1; have hc1 := Hc.out.same (f1.block bc Hc.out.lt hne); have Hc1 := Lib.hid hc1; clear h1; clear z1; clear hc1; have c11 := (f1.cell (p := ⟨g, 1, none⟩) gl hga).trans c1))
  have gl1 : g < w1.heap.size := Nat.lt_of_lt_of_le gl f1.size
  refine wp_region_seq (fun w' => w'.cell? ⟨g, 1, none⟩ = some (.map (some bc))) [0, 1, 2, 3, 4, 5, 6, 7, 8, 9] [6, 7, 8, 9] (by kernel_rfl) (by kernel_rfl) (by kernel_rfl) c11 ?_
  simp only [pickOps, List.filterMap_cons, List.filterMap_nil, List.getElem?_toArray, List.getElem?_cons_zero, List.getElem?_cons_succ, Option.map_some]
  repeat (refine seqH_read (v := ?_) (by rfl) (by rfl) ?_ ?_; rotate_left; (focus (intro w hS; (try dsimp only at hS); go_simp; try with_reducible rfl)); simp only [Act.put, List.setIfInBounds_toArray, List.set_cons_zero, List.set_cons_succ])
  refine seqH_eff (by rfl) (by rfl) fun K hK => ?_
  refine wp_bytes 9 70 _ rfl s rfl u9 u70 u5 ?_
  intro w2 cap cs fr hb hsz hcs hfz hcap f2 z2
  replace f2 := f2.undrew
  have sz2 := f2.size
  have c12 := (f2.cell (p := ⟨g, 1, none⟩) gl1 (fun h => h)).trans c11
  refine hK.out _ _ c12 ?_
  simp only [Act.put, List.setIfInBounds_toArray, List.set_cons_zero, List.set_cons_succ]
  refine seqH_eff (by rfl) (by rfl) fun K hK => ?_
  refine wp_s2ap 126 _ rfl rfl row126 h64 ?_
  refine hK.out _ _ c12 ?_
  simp only [Act.put, List.setIfInBounds_toArray, List.set_cons_zero, List.set_cons_succ]
  refine seqH_eff (by rfl) (by rfl) fun K hK => ?_
  refine wp_load_mid 126 _ rfl _ 0 rfl (s.data.toList.map B) _ (range_bytes hb hcs) row126 rfl HL.out ?_
  refine hK.out _ _ c12 ?_
  simp only [Act.put, List.setIfInBounds_toArray, List.set_cons_zero, List.set_cons_succ]
  refine seqH_eff (by rfl) (by rfl) fun K hK => ?_
  refine wp_mapUpdate _ _ _ 116 rfl mt116 kt t _ rfl rfl rfl (Hc1.out.same (f2.block bc Hc1.out.lt (fun h => h))) ?_
  intro w3 h3 f3 z3
  refine hK.out _ _ ((f3.cb (by omega) hgc).trans c12) ?_
  refine seqH_nil ?_
  have H3 := Lib.hid h3
  clear h3
  go_wp2
  go_ret
  refine ⟨rfl, H1.out.same ((f3.block ba (by have := H1.out.lt; omega) (fun h => hne h.symm)).trans (f2.block ba H1.out.lt (fun h => h))), H3.out, ?_⟩
  exact ((f1.trans' f2 (U := fun k => k = ba ∨ k = bc) (fun _ _ h => .inl h) (fun _ _ h => h.elim)).trans' f3 (fun _ _ h => h) (fun _ _ h => .inr h))
end Go.Proofs.Ytmbkmfpnjpkakaa
