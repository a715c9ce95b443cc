/- The program's disk in memory: which blocks it has, and what they hold of the plain disk; small contracts: Len, has, Lose, Misdirect. -/
import Derived.Test.YtmbkmfpnjpkakaaProg
import Derived.Test.YtmbkmfpnjpkakaaA2
import Derived.Test.YtmbkmfpnjpkakaaP0
namespace Go.Proofs.Ytmbkmfpnjpkakaa
open Go.RowKit Go.Im Go.Dsk0

def secV (l : List UInt8) : Value := .agg (cellsB l)
def cacheF (D : Dsk) : Int → Option Value := fun k => if 0 ≤ k then (D[k.toNat]?).bind (fun s => s.cac.map secV) else none
def armF (D : Dsk) : Int → Option Value := fun k => if 0 ≤ k then (D[k.toNat]?).bind (fun s => s.flt.map (Value.int .i64)) else none

/-- The durable contents lie in block bd, at av. -/
def DurAt (w : World) (av : Option Addr) (bd : Nat) (D : Dsk) : Prop :=
  D = [] ∨ (av = some ⟨bd, 0, none⟩ ∧ ∃ cs, w.heap[bd]? = some (.cells cs 126 (0, 0)) ∧ D.length * 64 ≤ cs.size ∧ ∀ i s, D[i]? = some s → ∀ j, j < 64 → cs[i * 64 + j]? = (s.dur[j]?).map B)

/-- The disk at block g: its durable contents in block bd, its cache the map bc, its armed faults the map ba. -/
structure DiskAt (w : World) (g bd bc ba : Nat) (D : Dsk) : Prop where
  ok : Ok D
  head : ∃ av cap, w.heap[g]? = some (.cells #[.slice av D.length cap, .map (some bc), .map (some ba)] 119 (0, 0)) ∧ D.length ≤ cap ∧ DurAt w av bd D
  cache : At w bc (cacheF D)
  armed : At w ba (armF D)
  ne : bc ≠ ba

/-- The blocks that a disk's operations may turn. -/
def foot (bd bc ba : Nat) : Nat → Prop := fun k => k = bd ∨ k = bc ∨ k = ba

theorem DiskAt.gne {w : World} {g bd bc ba : Nat} {D : Dsk} (h : DiskAt w g bd bc ba D) : g ≠ bc ∧ g ≠ ba ∧ (D ≠ [] → g ≠ bd ∧ bd ≠ bc ∧ bd ≠ ba) := by
  obtain ⟨av, cap, hg, _, hd⟩ := h.head
  obtain ⟨e1, c1, h1, _⟩ := h.cache
  obtain ⟨e2, c2, h2, _⟩ := h.armed
  refine ⟨fun e => ?_, fun e => ?_, fun hD => ?_⟩
  · subst e; rw [hg] at h1; cases h1
  · subst e; rw [hg] at h2; cases h2
  · rcases hd with hd | ⟨_, cs, hb, _⟩
    · exact (hD hd).elim
    · refine ⟨fun e => ?_, fun e => ?_, fun e => ?_⟩
      · subst e; rw [hg] at hb; injection hb with hb; injection hb with _ hb _; exact absurd hb (by decide)
      · subst e; rw [hb] at h1; cases h1
      · subst e; rw [hb] at h2; cases h2

theorem DiskAt.glt {w : World} {g bd bc ba : Nat} {D : Dsk} (h : DiskAt w g bd bc ba D) : g < w.heap.size := by
  obtain ⟨av, cap, hg, _, hd⟩ := h.head
  exact lt_of_blk hg

/-- The disk stays while other blocks turn. -/
theorem DiskAt.fr {w w' : World} {g bd bc ba : Nat} {D : Dsk} (h : DiskAt w g bd bc ba D) {S : Nat → Prop} (f : Fr S w w') (hg : ¬ S g) (hd : D ≠ [] → ¬ S bd) (hc : ¬ S bc) (ha : ¬ S ba) : DiskAt w' g bd bc ba D := by
  obtain ⟨av, cap, hgb, hcap, hdur⟩ := h.head
  refine ⟨h.ok, ⟨av, cap, (f.block g (lt_of_blk hgb) hg).trans hgb, hcap, ?_⟩, h.cache.same (f.block bc h.cache.lt hc), h.armed.same (f.block ba h.armed.lt ha), h.ne⟩
  rcases hdur with hD | ⟨h1, cs, h2, h3⟩
  · exact .inl hD
  · by_cases hD : D = []
    · exact .inl hD
    · exact .inr ⟨h1, cs, (f.block bd (lt_of_blk h2) (hd hD)).trans h2, h3⟩

theorem len_any (g : Nat) (n c : Nat) (av : Option Addr) (w : World) (c0 : w.cell? ⟨g, 0, none⟩ = some (.slice av n c)) :
    Calls Try.prog 29 #[.pointer (some ⟨g, 0, none⟩)] w fun e w' => e = .returned (.int .i64 n) ∧ w = w' := by
  go_enter Try.func29, Try.ntmps29
  go_wp2
  go_ret
  exact ⟨rfl, rfl⟩

def hasB (n : Nat) (i : Int) : Bool := decide (0 ≤ i ∧ i < n)

theorem has_any (g : Nat) (n c : Nat) (av : Option Addr) (i : Int) (w : World) (c0 : w.cell? ⟨g, 0, none⟩ = some (.slice av n c)) :
    Calls Try.prog 78 #[.pointer (some ⟨g, 0, none⟩), .int .i64 i] w fun e w' => e = .returned (.bool (hasB n i)) ∧ w = w' := by
  by_cases h0 : 0 ≤ i
  · have e1 : hasB n i = decide (i < n) := by simp [hasB, h0]
    have E1 := Lib.hid e1; clear e1
    go_enter Try.func78, Try.ntmps78
    go_wp2
    go_ret
    exact ⟨congrArg (fun b => Ending.returned (Value.bool b)) E1.out.symm, rfl⟩
  · have e1 : hasB n i = false := by simp [hasB, h0]
    have E1 := Lib.hid e1; clear e1
    go_enter Try.func78, Try.ntmps78
    go_wp2
    go_ret
    exact ⟨congrArg (fun b => Ending.returned (Value.bool b)) E1.out.symm, rfl⟩

/-- has, where the answer is known. -/
theorem has_yes {g n c : Nat} {av : Option Addr} {i : Int} {w : World} (c0 : w.cell? ⟨g, 0, none⟩ = some (.slice av n c)) (h : hasB n i = true) :
    Calls Try.prog 78 #[.pointer (some ⟨g, 0, none⟩), .int .i64 i] w fun e w' => e = .returned (.bool true) ∧ w = w' := by
  refine (has_any g n c av i w c0).mono ?_
  rintro e w' ⟨rfl, rfl⟩; exact ⟨by rw [h], rfl⟩
theorem has_no {g n c : Nat} {av : Option Addr} {i : Int} {w : World} (c0 : w.cell? ⟨g, 0, none⟩ = some (.slice av n c)) (h : hasB n i = false) :
    Calls Try.prog 78 #[.pointer (some ⟨g, 0, none⟩), .int .i64 i] w fun e w' => e = .returned (.bool false) ∧ w = w' := by
  refine (has_any g n c av i w c0).mono ?_
  rintro e w' ⟨rfl, rfl⟩; exact ⟨by rw [h], rfl⟩

theorem kt : Try.prog.underlying 3 = some (.int .i64) := by kernel_rfl
theorem mt116 : Try.prog.underlying 116 = some (.map 3 126) := by kernel_rfl
theorem mt117 : Try.prog.underlying 117 = some (.map 3 3) := by kernel_rfl
theorem zero3 (w : World) : (zeroValue 3).run Try.prog w = .ok (.int .i64 0) w := by kernel_rfl

theorem lose_yes (g n c : Nat) (av : Option Addr) (ba : Nat) (i : Int) (w : World) (f : Int → Option Value) (c0 : w.cell? ⟨g, 0, none⟩ = some (.slice av n c)) (c2 : w.cell? ⟨g, 2, none⟩ = some (.map (some ba)))
    (hm : At w ba f) (hi : hasB n i = true) :
    Calls Try.prog 38 #[.pointer (some ⟨g, 0, none⟩), .int .i64 i] w fun e w' => e = .returned (.int .i64 0) ∧ At w' ba (upd f i (some (.int .i64 (-1)))) ∧ Fr (fun k => k = ba) w w' := by
  have Hi := Lib.hid hi; clear hi
  have Hm := Lib.hid hm; clear hm
  go_enter Try.func38, Try.ntmps38
  go_wp2_with (first
    | (go_at_call 78; refine (has_yes c0 Hi.out).mono ?_; rintro e w' ⟨rfl, rfl⟩)
    | (at_mapUpdate; refine im_mapUpdate rfl _ _ _ 117 rfl mt117 kt i _ rfl rfl rfl Hm.out ?_; intro w1 h1 f1 z1; have H1 := Lib.hid h1; clear h1; clear z1))
  go_ret
  exact ⟨rfl, H1.out, f1⟩

theorem lose_no (g n c : Nat) (av : Option Addr) (i : Int) (w : World) (c0 : w.cell? ⟨g, 0, none⟩ = some (.slice av n c)) (hi : hasB n i = false) :
    Calls Try.prog 38 #[.pointer (some ⟨g, 0, none⟩), .int .i64 i] w fun e w' => e = .returned (.int .i64 1) ∧ w = w' := by
  have Hi := Lib.hid hi; clear hi
  go_enter Try.func38, Try.ntmps38
  go_wp2_with (first
    | (go_at_call 78; refine (has_no c0 Hi.out).mono ?_; rintro e w' ⟨rfl, rfl⟩))
  go_ret
  exact ⟨rfl, rfl⟩

end Go.Proofs.Ytmbkmfpnjpkakaa
