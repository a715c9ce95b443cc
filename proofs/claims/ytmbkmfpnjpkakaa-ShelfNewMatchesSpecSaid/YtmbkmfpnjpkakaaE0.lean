/- The reference disk in memory: its sectors, each with its durable bytes, its cached bytes, whether it is pending, and its fault, over the same plain disk. -/
import Derived.Test.YtmbkmfpnjpkakaaR3
import Derived.Test.YtmbkmfpnjpkakaaA5
namespace Go.Proofs.Ytmbkmfpnjpkakaa
open Go.RowKit Go.Im Go.Dsk0

/-- Bytes in memory. -/
def BytesAt (w : World) (v : Value) (l : List UInt8) : Prop :=
  ∃ b cap cs fr, v = .slice (some ⟨b, 0, none⟩) l.length cap ∧ l.length ≤ cap ∧ w.heap[b]? = some (.cells cs 5 fr) ∧ ∀ (j : Nat) (x : UInt8), l[j]? = some x → cs[j]? = some (B x)

/-- The four cells of a sector. -/
structure SecAt (w : World) (cs : Array Value) (i : Nat) (s : Sec) : Prop where
  dur : ∃ dv, cs[i * 4]? = some dv ∧ BytesAt w dv s.dur
  cac : ∃ cv, cs[i * 4 + 1]? = some cv ∧ ∀ c, s.cac = some c → BytesAt w cv c
  pend : cs[i * 4 + 2]? = some (.bool s.cac.isSome)
  flt : cs[i * 4 + 3]? = some (.int .i64 (s.flt.getD (-2)))

/-- The reference disk at block g, its sectors in block bl. -/
structure RefAt (w : World) (g bl : Nat) (D : Dsk) : Prop where
  ok : Ok D
  head : ∃ av cap, w.heap[g]? = some (.cells #[.slice av D.length cap] 122 (0, 0)) ∧ D.length ≤ cap ∧ (D = [] ∨ (av = some ⟨bl, 0, none⟩ ∧ ∃ cs, w.heap[bl]? = some (.cells cs 124 (0, 0)) ∧ D.length * 4 ≤ cs.size ∧ ∀ i s, D[i]? = some s → SecAt w cs i s))

/-- Which blocks may turn: none that holds bytes. -/
def noBytes (w : World) (S : Nat → Prop) : Prop := ∀ b cs fr, w.heap[b]? = some (.cells cs 5 fr) → ¬ S b

theorem BytesAt.fr {w w' : World} {v : Value} {l : List UInt8} (h : BytesAt w v l) {S : Nat → Prop} (f : Fr S w w') (hS : noBytes w S) : BytesAt w' v l := by
  obtain ⟨b, cap, cs, fr, h1, h2, h3, h4⟩ := h
  exact ⟨b, cap, cs, fr, h1, h2, (f.block b (lt_of_blk h3) (hS b cs fr h3)).trans h3, h4⟩
theorem SecAt.fr {w w' : World} {cs : Array Value} {i : Nat} {s : Sec} (h : SecAt w cs i s) {S : Nat → Prop} (f : Fr S w w') (hS : noBytes w S) : SecAt w' cs i s := by
  obtain ⟨⟨dv, h1, h2⟩, ⟨cv, h3, h4⟩, h5, h6⟩ := h
  exact ⟨⟨dv, h1, h2.fr f hS⟩, ⟨cv, h3, fun c hc => (h4 c hc).fr f hS⟩, h5, h6⟩
theorem RefAt.fr {w w' : World} {g bl : Nat} {D : Dsk} (h : RefAt w g bl D) {S : Nat → Prop} (f : Fr S w w') (hg : ¬ S g) (hl : D ≠ [] → ¬ S bl) (hS : noBytes w S) : RefAt w' g bl D := by
  obtain ⟨hk, av, cap, h1, h2, h3⟩ := h
  refine ⟨hk, av, cap, (f.block g (lt_of_blk h1) hg).trans h1, h2, ?_⟩
  rcases h3 with h3 | ⟨h3, cs, h4, h5, h6⟩
  · exact .inl h3
  · by_cases hD : D = []
    · exact .inl hD
    · exact .inr ⟨h3, cs, (f.block bl (lt_of_blk h4) (hl hD)).trans h4, h5, fun i s hs => (h6 i s hs).fr f hS⟩

/-- The sectors' row turned: the disk is another one. -/
theorem RefAt.turn {w' : World} {g bl : Nat} {D D' : Dsk} {cap : Nat} {cs' : Array Value} (hk : Ok D') (hl : D'.length = D.length) (hg : w'.heap[g]? = some (.cells #[.slice (some ⟨bl, 0, none⟩) D.length cap] 122 (0, 0))) (hc : D.length ≤ cap)
    (hb : w'.heap[bl]? = some (.cells cs' 124 (0, 0))) (hz : D.length * 4 ≤ cs'.size) (hs : ∀ i s, D'[i]? = some s → SecAt w' cs' i s) : RefAt w' g bl D' :=
  ⟨hk, _, cap, by rw [hl]; exact hg, by rw [hl]; exact hc, .inr ⟨rfl, cs', hb, by rw [hl]; exact hz, hs⟩⟩

end Go.Proofs.Ytmbkmfpnjpkakaa
