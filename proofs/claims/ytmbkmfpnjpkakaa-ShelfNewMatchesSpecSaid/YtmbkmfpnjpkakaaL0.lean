/- Helpers of the disk laws: Same, which compares two lists of integers; a list of integers that lies in memory; strings.Repeat of one byte. -/
import Derived.Test.YtmbkmfpnjpkakaaD8
import Derived.BigQuiet
namespace Go.Proofs.Ytmbkmfpnjpkakaa
open Go.RowKit Go.Im Go.Dsk0

theorem IntsAt.of_row {w : World} {v : Value} {l : List Int} {base : Nat} {ok : Nat → Prop} (h : w.ownsRow base 3 1 v l.length (l.map encZ)) (hok : ∀ b, base ≤ b → b < w.heap.size → ok b) (hl : l.length ≤ 9223372036854775807) : IntsAt w v l ok := by
  obtain ⟨h1, h2 | ⟨gb, vc, cur, h2, h3, h4, h5, h6, h7, h8⟩⟩ := h
  · have hn : l.length = 0 := by omega
    exact ⟨none, 0, by rw [h2.1, hn], hl, .inl (List.eq_nil_of_length_eq_zero hn)⟩
  · refine ⟨_, vc, h2, hl, .inr ⟨gb, 0, rfl, lt_of_blk h4, hok gb h3 (lt_of_blk h4), fun j x hx => ?_⟩⟩
    have hj : j < l.length := (List.getElem?_eq_some_iff.1 hx).1
    rw [cell_of_blk h4]
    have : (cur.toList.take (l.length * 1))[j]? = some (.int .i64 x) := by
      rw [h8, List.getElem?_map, hx]; rfl
    rw [List.getElem?_take_of_lt (by omega)] at this
    simpa using this

theorem IntsAt.fr {w w' : World} {v : Value} {l : List Int} {ok : Nat → Prop} (h : IntsAt w v l ok) {S : Nat → Prop} (f : Fr S w w') (hS : ∀ b, b < w.heap.size → ok b → ¬ S b) : IntsAt w' v l ok := by
  obtain ⟨a, c, h1, h2, h3⟩ := h
  refine ⟨a, c, h1, h2, h3.imp id ?_⟩
  rintro ⟨b, o, e, hb, ho, hc⟩
  exact ⟨b, o, e, Nat.lt_of_lt_of_le hb f.size, ho, fun j x hx => (f.cb hb (hS b hb ho)).trans (hc j x hx)⟩
theorem IntsAt.imp {w : World} {v : Value} {l : List Int} {ok ok' : Nat → Prop} (h : IntsAt w v l ok) (hS : ∀ b, b < w.heap.size → ok b → ok' b) : IntsAt w v l ok' := by
  obtain ⟨a, c, h1, h2, h3⟩ := h
  refine ⟨a, c, h1, h2, h3.imp id ?_⟩
  rintro ⟨b, o, e, hb, ho, hc⟩
  exact ⟨b, o, e, hb, hS b hb ho, hc⟩

theorem take_eq_snoc {l m : List Int} {k : Nat} {x y : Int} (h : l.take k = m.take k) (hx : l[k]? = some x) (hy : m[k]? = some y) (e : x = y) : l.take (k + 1) = m.take (k + 1) := by
  rw [List.take_add_one, List.take_add_one, h, hx, hy, e]

set_option maxRecDepth 100000 in
theorem same_calls (va vb : Value) (xs ys : List Int) (w : World) {oa ob : Nat → Prop} (ha : IntsAt w va xs oa) (hb : IntsAt w vb ys ob) :
    Calls Try.prog 44 #[va, vb] w fun e w' => e = .returned (.bool (decide (xs = ys))) ∧ Fr (fun _ => False) w w' := by
  obtain ⟨aa, ca, rfl, hla, hca⟩ := ha
  obtain ⟨ab, cb, rfl, hlb, hcb⟩ := hb
  have HA := Lib.hid hca; clear hca
  have HB := Lib.hid hcb; clear hcb
  by_cases hlen : xs.length = ys.length
  · have HL := Lib.hid hlen; clear hlen
    have hbt : (((xs.length : Nat) : Int) != ((ys.length : Nat) : Int)) = false := by rw [HL.out]; simp
    have HBT := Lib.hid hbt; clear hbt
    have hle : ys.length = xs.length := HL.out.symm
    go_enter Try.func44, Try.ntmps44
    go_wp2_with fail
    go_loopg [5] xs.length (fun n t wr => ∃ k : Nat, n + k = xs.length ∧ t = .int .i64 k ∧ xs.take k = ys.take k ∧ Fr (fun _ => False) w wr)
    case atStart => exact ⟨0, rfl, rfl, rfl, Fr.refl _ _⟩
    case round =>
      obtain ⟨k, hn, rfl, heq, hfr⟩ := hrel
      have HN := Lib.hid hn; clear hn
      have HE := Lib.hid heq; clear heq
      by_cases hk : k < xs.length
      · have hkb : k < ys.length := by have := HL.out; omega
        obtain ⟨x, hx⟩ : ∃ x, xs[k]? = some x := ⟨_, List.getElem?_eq_getElem hk⟩
        obtain ⟨y, hy⟩ : ∃ y, ys[k]? = some y := ⟨_, List.getElem?_eq_getElem hkb⟩
        obtain ⟨b1, o1, rfl, hb1, _, hc1⟩ := (HA.out.resolve_left (fun e => by rw [e] at hk; simp at hk))
        obtain ⟨b2, o2, rfl, hb2, _, hc2⟩ := (HB.out.resolve_left (fun e => by rw [e] at hkb; simp at hkb))
        have c1 : wr.cell? ⟨b1, o1 + k, none⟩ = some (.int .i64 x) := (hfr.cb hb1 (fun h => h)).trans (hc1 k x hx)
        have c2 : wr.cell? ⟨b2, o2 + k, none⟩ = some (.int .i64 y) := (hfr.cb hb2 (fun h => h)).trans (hc2 k y hy)
        have HX := Lib.hid hx; clear hx
        have HY := Lib.hid hy; clear hy
        clear hc1 hc2
        by_cases hxy : x = y
        · have hne : (x != y) = false := by simp [hxy]
          have HXY := Lib.hid hxy; clear hxy
          go_wp2_with fail
          go_quiet (fail)
          go_wp2_with fail
          have hn : gk + k = xs.length := HN.out
          go_roundg (gk - 1)
          case measure => omega
          case rel => exact ⟨k + 1, by omega, by go_num, take_eq_snoc HE.out HX.out HY.out HXY.out, hfr.drewN _⟩
        · have hne : (x != y) = true := by simp [hxy]
          have HXY := Lib.hid hxy; clear hxy
          go_wp2_with fail
          go_quiet (fail)
          go_wp2_with fail
          go_ret
          have : xs ≠ ys := fun e => HXY.out (by have := HX.out; rw [e, HY.out] at this; exact (Option.some.inj this).symm)
          exact ⟨by simp [this], hfr.drewN _⟩
      · go_wp2_with fail
        go_ret
        have he := HE.out
        have hll := HL.out
        rw [List.take_of_length_le (by omega), List.take_of_length_le (by omega)] at he
        exact ⟨by simp [he], hfr⟩
  · have hbt : (((xs.length : Nat) : Int) != ((ys.length : Nat) : Int)) = true := by simp; omega
    go_enter Try.func44, Try.ntmps44
    go_wp2_with fail
    go_ret
    have : xs ≠ ys := fun e => hlen (by rw [e])
    exact ⟨by simp [this], Fr.refl _ _⟩

theorem repeatL_one (x : UInt8) : ∀ c, Lib.repeatL [x] c = List.replicate c x
  | 0 => rfl
  | c + 1 => by rw [Lib.repeatL, repeatL_one x c, List.replicate_succ]; rfl

/-- One byte, 64 times; as a text. -/
def rp (x : UInt8) : List UInt8 := List.replicate 64 x
def rps (x : UInt8) : ByteArray := ⟨(rp x).toArray⟩

/-- strings.Repeat: one byte, 64 times. -/
theorem rep_calls (x : UInt8) (w : World) : Calls Try.prog 31 #[.string ⟨#[x]⟩, .int .i64 64] w fun e w' => e = .returned (.string (rps x)) ∧ Fr (fun _ => False) w w' := by
  refine (Any.strings_Repeat_main Try.lays105 Try.Builder_Extra_105 ⟨#[x]⟩ 64 w (by decide) (by decide) (by show 1 * 64 ≤ _; decide) (by show 0 < 1; decide)).mono ?_
  rintro e w' ⟨rfl, hb⟩
  refine ⟨?_, Fr.of_below hb _⟩
  show Ending.returned (Value.string ⟨(Lib.repeatL [x] 64).toArray⟩) = _
  rw [repeatL_one]; rfl

theorem DiskAt.lts {w : World} {g bd bc ba : Nat} {D : Dsk} (h : DiskAt w g bd bc ba D) (hD : D ≠ []) (k : Nat) (hk : w.heap.size ≤ k) : ¬ foot bd bc ba k := by
  have h1 := h.cache.lt
  have h2 := h.armed.lt
  obtain ⟨_, _, _, _, hd⟩ := h.head
  rcases hd with hd | ⟨_, cs, hb, _⟩
  · exact absurd hd hD
  · have h3 := lt_of_blk hb
    unfold foot; omega

/-- A list of integers that has just been laid. -/
theorem IntsAt.one (w : World) (x : Int) (ok : Nat → Prop) (hok : ok w.heap.size) : IntsAt (w.alloc (.cells #[.int .i64 x] 3)) (.slice (some ⟨w.heap.size, 0, none⟩) 1 1) [x] ok :=
  ⟨_, _, rfl, by simp, .inr ⟨_, 0, rfl, by simp, hok, fun j y hy => by
    rw [cell_of_blk (heap_alloc_new w _)]
    match j, hy with
    | 0, hy => injection hy with hy; subst hy; rfl
    | j + 1, hy => simp at hy⟩⟩

end Go.Proofs.Ytmbkmfpnjpkakaa
