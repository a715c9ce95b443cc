/- The program's disk: Read. -/
import Derived.Test.YtmbkmfpnjpkakaaD2
namespace Go.Proofs.Ytmbkmfpnjpkakaa
open Go.RowKit Go.Im Go.Dsk0

def z64 : Array Value := cellsB (List.replicate 64 0)
theorem z64_size : z64.size = 64 := by simp [z64, cellsB]
theorem zero126 (w : World) : (zeroValue 126).run Try.prog w = .ok (.agg z64) w := by kernel_rfl
theorem info126' {l : List UInt8} (h : l.length = 64) : (Try.prog.info? 126).map (·.size) = some (cellsB l).size := by rw [info126, cellsB_size, h]
theorem infoz : (Try.prog.info? 126).map (·.size) = some z64.size := by rw [info126, z64_size]

/-- Bytes back into a text: the slice is a whole block. -/
theorem im_back {P : Program} {ops : Array Oper} {rest : List Oper} {o : Oper} {a : Act} {w : World} {Q : Exit → Act → World → Prop} (hg : o.guard = none) (src dst : TypeId) (x : Operand) (hop : o.op = Op.convert src dst x) {b n cap : Nat} (hx : a.eval x = .slice (some ⟨b, 0, none⟩) n cap) {e : TypeId}
    (hs : P.underlying src = some (.slice e)) (he : P.underlying e = some (.int .u8)) (hd : P.underlying dst = some .string) {l : List UInt8} {t : TypeId} {fr : Nat × Nat} {cs : Array Value} (hb : w.heap[b]? = some (.cells cs t fr)) (hl : l.length = n) (hcs : ∀ (j : Nat) (x : UInt8), l[j]? = some x → cs[j]? = some (B x))
    (hK : wpList P ops Q rest (a.put o.dst (.string ⟨l.toArray⟩)) w) : wpList P ops Q (o :: rest) a w := by
  subst hl
  refine wpList_plain hg fun K' hK' => ?_
  have hrun := run_convert_bytes_back (P := P) w src dst e ⟨b, 0, none⟩ cap l hs he hd (fun j hj => by
    rw [Addr.add_mid, Nat.zero_add, cell_of_blk hb]
    exact hcs j _ (List.getElem?_eq_getElem hj))
  unfold Oper.wp
  simp only [execOp, hop, hx, Sem.run_bind, hrun, Result.andThen_ok, Sem.run_pure]
  exact hK' _ _ hK

set_option maxRecDepth 100000 in
theorem read_cached (g n c : Nat) (av : Option Addr) (bc : Nat) (i : Int) (l : List UInt8) (w : World) (f : Int → Option Value) (c0 : w.cell? ⟨g, 0, none⟩ = some (.slice av n c)) (c1 : w.cell? ⟨g, 1, none⟩ = some (.map (some bc)))
    (hm : At w bc f) (hi : hasB n i = true) (hf : f i = some (.agg (cellsB l))) (hl : l.length = 64) :
    Calls Try.prog 30 #[.pointer (some ⟨g, 0, none⟩), .int .i64 i] w fun e w' => e = .returned (.tuple #[.string ⟨l.toArray⟩, .int .i64 0]) ∧ Fr (fun _ => False) w w' := by
  have Hi := Lib.hid hi; clear hi
  have Hm := Lib.hid hm; clear hm
  have Hl := Lib.hid hl; clear hl
  go_enter Try.func30, Try.ntmps30
  go_wp2_with fail
  refine (has_yes c0 Hi.out).mono ?_; rintro e w' ⟨rfl, rfl⟩
  go_wp2_with (first
    | (at_lookup; refine im_lookup_ok rfl _ _ 116 rfl mt116 kt (zero126 _) i rfl rfl Hm.out ?_)
    | (refine im_alloc_row rfl 126 rfl (zero126 _) ?_; intro w1 b1 f1 z1; have B1 := Lib.hid b1; clear b1; clear z1)
    | (refine im_store_row rfl 126 _ _ rfl rfl rfl B1.out (by rw [cellsB_size, Hl.out, z64_size]) (info126' Hl.out) (cellsB_one _) ?_; intro w2 b2 f2 z2; have B2 := Lib.hid b2; clear b2; clear z2)
    | (refine im_back rfl 70 9 _ rfl rfl u70 u5 u9 B2.out Hl.out (fun j x hx => by rw [cellsB_get, hx]; rfl) ?_))


  go_ret2
  refine ⟨rfl, ?_⟩
  exact f1.trans' f2 (fun _ _ h => h) (fun k hk h => by omega)

theorem range_arg {l : List UInt8} {cs : Array Value} {i : Nat} (hl : l.length = 64) (hcs : ∀ j, j < 64 → cs[i * 64 + j]? = (l[j]?).map B) : ∀ (j : Nat) (v : Value), (l.map B)[j]? = some v → cs[i * 64 + j]? = some v := fun j v hv => by
  have hj : j < 64 := by have := (List.getElem?_eq_some_iff.1 hv).1; simpa [hl] using this
  rw [hcs j hj, ← List.getElem?_map]; exact hv

set_option maxRecDepth 100000 in
theorem read_durable (g n c : Nat) (bd bc : Nat) (i : Nat) (l : List UInt8) (w : World) (f : Int → Option Value) (c0 : w.cell? ⟨g, 0, none⟩ = some (.slice (some ⟨bd, 0, none⟩) n c)) (c1 : w.cell? ⟨g, 1, none⟩ = some (.map (some bc)))
    (hm : At w bc f) (hi : i < n) (hf : f i = none) (hl : l.length = 64) {cs : Array Value} (hb : w.heap[bd]? = some (.cells cs 126 (0, 0))) (hcs : ∀ j, j < 64 → cs[i * 64 + j]? = (l[j]?).map B) :
    Calls Try.prog 30 #[.pointer (some ⟨g, 0, none⟩), .int .i64 i] w fun e w' => e = .returned (.tuple #[.string ⟨l.toArray⟩, .int .i64 0]) ∧ Fr (fun _ => False) w w' := by
  have hi' : hasB n i = true := by simp [hasB]; omega
  have Hi := Lib.hid hi'; clear hi'
  have Hm := Lib.hid hm; clear hm
  have Hl := Lib.hid hl; clear hl
  have Hb := Lib.hid hb
  have hI : (Try.prog.info? 126).map (·.size) = some (l.map B).length := by rw [info126, List.length_map, Hl.out]
  have HI := Lib.hid hI; clear hI
  have blt := lt_of_blk hb
  have glt := World.block_lt_of_cell? w _ c0
  clear hb
  go_enter Try.func30, Try.ntmps30
  go_wp2_with fail
  refine (has_yes c0 Hi.out).mono ?_; rintro e w' ⟨rfl, rfl⟩
  go_wp2_with (first
    | (at_lookup; refine im_lookup_ok rfl _ _ 116 rfl mt116 kt (zero126 _) i rfl rfl Hm.out ?_)
    | (refine im_alloc_row rfl 126 rfl (zero126 _) ?_; intro w1 b1 f1 z1; have B1 := Lib.hid b1; clear b1; have Z1 := Lib.hid z1; clear z1)
    | (refine im_store_row rfl 126 _ _ rfl rfl rfl B1.out rfl infoz (cellsB_one _) ?_; intro w2 b2 f2 z2; have B2 := Lib.hid b2; clear b2; have Z2 := Lib.hid z2; clear z2; have c20 := ((f2.cb (by have := Z1.out; omega) (by omega)).trans (f1.cb glt (fun h => h))).trans c0;
        have r2 : ∀ o, o = i * 64 → w2.rangeAt bd o (l.map B) := (fun o ho => by subst ho; exact range_of_blk ((f2.block bd (by have := Z1.out; omega) (by omega)).trans ((f1.block bd blt (fun h => h)).trans Hb.out)) (range_arg Hl.out hcs)); have R2 := Lib.hid r2; clear r2)
    | (refine wpList_load_mid rfl 126 _ rfl _ _ rfl (l.map B) _ (R2.out _ (by omega)) row126 rfl HI.out ?_)
    | (refine im_store_row rfl 126 _ _ rfl (vs := cellsB l) rfl rfl B2.out (by rw [cellsB_size, Hl.out, z64_size]) (info126' Hl.out) (cellsB_one _) ?_; intro w3 b3 f3 z3; have B3 := Lib.hid b3; clear b3; clear z3)
    | (refine im_back rfl 70 9 _ rfl rfl u70 u5 u9 B3.out Hl.out (fun j x hx => by rw [cellsB_get, hx]; rfl) ?_))
  go_ret2
  refine ⟨rfl, ?_⟩
  exact (f1.trans' f2 (fun _ _ h => h) (fun k hk h => by omega)).trans' f3 (fun _ _ h => h) (fun k hk h => by omega)

/-- Read: the sector's content, or ErrArg; nothing that was there turns. -/
theorem read_calls (g bd bc ba : Nat) (D : Dsk) (i : Int) (w : World) (h : DiskAt w g bd bc ba D) :
    Calls Try.prog 30 #[.pointer (some ⟨g, 0, none⟩), .int .i64 i] w fun e w' => e = .returned (.tuple #[.string ⟨(Dsk0.read D i).1.toArray⟩, .int .i64 (Dsk0.read D i).2]) ∧ Fr (fun _ => False) w w' := by
  obtain ⟨av, cap, c0, c1, c2, hg, hcap, hd⟩ := h.open_
  cases hi : has D i with
  | false =>
    have Hi := Lib.hid hi; clear hi
    unfold Dsk0.read
    rw [if_neg (by rw [Hi.out]; decide)]
    have c0' := c0
    clear hcap hd hg c1 c2 h
    go_enter Try.func30, Try.ntmps30
    go_wp2_with fail
    refine (has_no c0 Hi.out).mono ?_; rintro e w' ⟨rfl, rfl⟩
    go_wp2_with fail
    go_ret2
    exact ⟨rfl, Fr.refl _ _⟩
  | true =>
    have hi' := has_iff.1 hi
    obtain ⟨k, rfl⟩ : ∃ k : Nat, i = k := ⟨i.toNat, by omega⟩
    have hk : k < D.length := by omega
    have hget : D[k]? = some D[k] := List.getElem?_eq_getElem hk
    have hmem : D[k] ∈ D := List.getElem_mem hk
    have hrd : Dsk0.read D k = (cont D[k], 0) := by unfold Dsk0.read; rw [if_pos hi, Int.toNat_natCast, hget]; rfl
    have hfi : cacheF D k = (D[k].cac).map secV := by rw [cacheF_eq, secF_at (by omega), Int.toNat_natCast, hget]; rfl
    rw [hrd]
    cases hq : D[k].cac with
    | some l =>
      have hc : cont D[k] = l := by unfold cont; rw [hq]; rfl
      rw [hc]
      exact read_cached g D.length cap av bc k l w _ c0 c1 h.cache hi (by rw [hfi, hq]; rfl) (h.ok.cac _ hmem l hq)
    | none =>
      have hc : cont D[k] = D[k].dur := by unfold cont; rw [hq]; rfl
      rw [hc]
      rcases hd with hd | ⟨rfl, cs, hb, hsz, hcs⟩
      · subst hd; simp at hk
      · exact read_durable g D.length cap bd bc k D[k].dur w _ c0 c1 h.cache hk (by rw [hfi, hq]; rfl) (h.ok.dur _ hmem) hb (hcs k _ hget)

end Go.Proofs.Ytmbkmfpnjpkakaa
