/- The program's disk: Pending: the keys of the cache, sorted. -/
import Derived.Test.YtmbkmfpnjpkakaaD6
import Derived.Test.YtmbkmfpnjpkakaaShelf
import Derived.OwnWalkIn
import Derived.LoopNIn
import Derived.WalkSpells
import Derived.Maps.Range
namespace Go.Proofs.Ytmbkmfpnjpkakaa
open Go.RowKit Go.Im Go.Dsk0 Go.Maps Go.Sort Go.Shelf
open Go.WideElems (Fit rg)

/-- The pending numbers, as ints. -/
def pendI (D : Dsk) : List Int := (pend D).map (fun i : Nat => (i : Int))

abbrev Rt : Value → Option (DataW Unit × List MemPlace) := fun _ => some (.lit (.bool true), [])

theorem int_inj {a b : Int} (h : Value.int .i64 a = .int .i64 b) : a = b := by cases h; rfl

theorem cacheF_isSome {D : Dsk} {k : Int} : (cacheF D k).isSome = true ↔ k ∈ pendI D := by
  unfold cacheF pendI pend pends
  rw [List.mem_map]
  constructor
  · intro h
    split at h
    · rename_i h0
      cases hs : D[k.toNat]? with
      | none => simp [hs] at h
      | some s =>
        have hl := (List.getElem?_eq_some_iff.1 hs).1
        cases hc : s.cac with
        | none => simp [hs, hc] at h
        | some l => exact ⟨k.toNat, by rw [List.mem_filter, List.mem_range]; exact ⟨hl, by simp [hs, hc]⟩, by omega⟩
    · cases h
  · rintro ⟨i, hi, rfl⟩
    rw [List.mem_filter, List.mem_range] at hi
    obtain ⟨hl, hp⟩ := hi
    rw [if_pos (by omega), Int.toNat_natCast]
    cases hs : D[i]? with
    | none => simp [hs] at hp
    | some s =>
      cases hc : s.cac with
      | none => simp [hs, hc] at hp
      | some l => simp [hc]

theorem pendI_sorted (D : Dsk) : (pendI D).Pairwise (fun a b => a ≤ b) := by
  unfold pendI pend
  rw [List.pairwise_map]
  refine List.Pairwise.imp (R := fun a b : Nat => a < b) (fun h => by omega) ?_
  exact List.Pairwise.filter _ List.pairwise_lt_range
theorem pendI_nodup (D : Dsk) : (pendI D).Nodup := by
  unfold pendI pend
  rw [List.Nodup, List.pairwise_map]
  refine List.Pairwise.imp (R := fun a b : Nat => a < b) (fun h => by omega) ?_
  exact List.Pairwise.filter _ List.pairwise_lt_range

/-- The cache, as the kit's law on sorted keys wants it. -/
theorem cache_owns {w : World} {b : Nat} {D : Dsk} (h : At w b (cacheF D)) (hlen : D.length ≤ 65536) :
    ∃ D0 : DataW Unit, w.ownsMap Try.prog 3 Rt b D.length D0 ∧ (intKeys D0).Perm (pendI D) ∧ Maps.size D0 ≤ 65536 := by
  obtain ⟨es, c, hb, r⟩ := h
  have hkey : ∀ e ∈ es.toList, ∃ k : Int, e.key = .int .i64 k ∧ k ∈ pendI D := fun e he => by
    obtain ⟨k, hk⟩ := r.keys e he
    refine ⟨k, hk, cacheF_isSome.1 ?_⟩
    rw [(r.read k e.val).2 ⟨e, he, hk, rfl⟩]; rfl
  have hbd : ∀ k ∈ pendI D, 0 ≤ k ∧ k < D.length := fun k hk => by
    unfold pendI pend at hk
    rw [List.mem_map] at hk
    obtain ⟨i, hi, rfl⟩ := hk
    rw [List.mem_filter, List.mem_range] at hi
    omega
  -- the keys
  have hks : ∃ ks : List Int, es.toList.map (·.key) = ks.map (fun k => Value.int .i64 k) := by
    refine ⟨es.toList.map (fun e => match e.key with | .int _ k => k | _ => 0), ?_⟩
    rw [List.map_map]
    refine List.map_congr_left fun e he => ?_
    obtain ⟨k, hk, _⟩ := hkey e he
    simp [hk]
  obtain ⟨ks, hks⟩ := hks
  have hnd : ks.Nodup := by
    have := r.nodupK
    rw [hks, List.Nodup, List.pairwise_map] at this
    exact this.imp (fun h e => h (by rw [e]))
  have hmem : ∀ k, k ∈ ks ↔ k ∈ pendI D := fun k => by
    rw [← cacheF_isSome]
    have h1 : k ∈ ks ↔ Value.int .i64 k ∈ es.toList.map (·.key) := by
      rw [hks, List.mem_map]
      exact ⟨fun h => ⟨k, h, rfl⟩, fun ⟨k', h', e⟩ => by injection e with _ e; exact e ▸ h'⟩
    rw [h1, List.mem_map]
    constructor
    · rintro ⟨e, he, hk⟩
      rw [(r.read k e.val).2 ⟨e, he, hk, rfl⟩]; rfl
    · intro h
      obtain ⟨v, hv⟩ := Option.isSome_iff_exists.1 h
      obtain ⟨e, he, hk, _⟩ := (r.read k v).1 hv
      exact ⟨e, he, hk⟩
  have hperm : ks.Perm (pendI D) := (List.perm_ext_iff_of_nodup hnd (pendI_nodup D)).2 hmem
  have hlen2 : es.size ≤ D.length := by
    have h1 : ks.length = es.size := by
      have := congrArg List.length hks
      simpa using this.symm
    have h2 : (pendI D).length ≤ D.length := by
      unfold pendI pend
      rw [List.length_map]
      refine Nat.le_trans (List.length_filter_le _ _) (by simp)
    rw [← h1, hperm.length_eq]; exact h2
  have hrd : ∀ e ∈ es.toList, ∀ k : Int, e.key = .int .i64 k → WideElems.rd Try.prog 3 Rt e = some (.int .i64 k, .lit (.bool true)) := fun e he k hk => by
    obtain ⟨k', hk', hm⟩ := hkey e he
    obtain rfl := int_inj (hk.symm.trans hk')
    have hb' := hbd k hm
    have hwf : (Lit.int .i64 k).wf = true := by
      exact WalkArith.wf_i64 ⟨by omega, by omega⟩
    have hko : keyOf Try.prog 3 (.int .i64 k) = some (.int .i64 k) := keyOf_int_mk Try.underlying3 hwf
    unfold WideElems.rd
    rw [hk, hko]; rfl
  refine ⟨_, ⟨es, c, hb, ⟨Nat.le_trans hlen2 (Nat.le_trans hlen (by simp [maxLen])), ?_, ?_⟩, hlen2, rfl⟩, ?_, ?_⟩
  · rw [MapKept.stamped_iff]
    refine ⟨r.born, r.nodupB, ?_⟩
    have := r.nodupK
    rwa [List.Nodup, List.pairwise_map] at this
  · intro e he
    obtain ⟨k, hk, _⟩ := hkey e he
    exact ⟨_, hrd e he k hk⟩
  · refine List.Perm.trans ?_ hperm
    show (List.map (fun p : Lit × DataW Unit => Go.intOf p.1) _).Perm ks
    refine ((WideShapes.sorted_perm _).map _).trans ?_
    rw [List.map_map]
    have : es.toList.map ((fun p : Lit × DataW Unit => Go.intOf p.1) ∘ rg Try.prog 3 Rt) = ks := by
      have h2 : (es.toList.map (·.key)).map (fun v => match v with | .int _ k => k | _ => 0) = ks := by
        rw [hks, List.map_map]
        conv => rhs; rw [← List.map_id ks]
        rfl
      rw [← h2, List.map_map]
      refine List.map_congr_left fun e he => ?_
      obtain ⟨k, hk, _⟩ := hkey e he
      simp only [Function.comp, rg, hrd e he k hk, Option.getD_some, Go.intOf, hk]
    rw [this]
  · show (List.foldr DataW.insert [] _).length ≤ 65536
    rw [length_sorted]
    simp
    omega

theorem sortsA (m : Nat) : AnyZI.SortsIn Try.prog Try.sortedA_ren Fence.wide m :=
  ⟨fun blk off cap ss W hH hblk hsz => callsIn_wide.2 (AnyM.slices_Sort_int Try.sortA blk off cap ss W hH hblk hsz),
   fun p cap W => callsIn_wide.2 (AnyM.slices_Sort_int_none Try.sortA p cap W)⟩

theorem pend_of_perm {D : Dsk} {ss : List Int} (h : ss.Perm (pendI D)) : ss.mergeSort (fun x y => decide (x ≤ y)) = pendI D := by
  rw [mergeSort_of_perm_i h]
  refine List.mergeSort_of_pairwise ((pendI_sorted D).imp fun h => by simpa using h)

set_option maxHeartbeats 1000000 in
/-- Pending: a new slice that holds the pending numbers, in order; nil where there is none. -/
theorem pending_calls (g bd bc ba : Nat) (D : Dsk) (w : World) (h : DiskAt w g bd bc ba D) :
    Calls Try.prog 36 #[.pointer (some ⟨g, 0, none⟩)] w fun e w' => ∃ v : Value, e = .returned v ∧ w'.ownsRow w.heap.size 3 1 v (pendI D).length ((pendI D).map encZ) ∧ Fr (fun _ => False) w w' := by
  obtain ⟨av, cap, c0, c1, c2, hg, hcap, hd⟩ := h.open_
  obtain ⟨D0, hown, hperm, hsz⟩ := cache_owns h.cache h.ok.len
  refine (callsIn_wide (n := 6)).1 ?_
  have hbl := hown.lt
  have hseq : SeqGives Fence.wide 2 Try.prog 110 #[.pointer (some ⟨w.heap.size, 0, none⟩)] encZ (fun ss => ss.Perm (intKeys D0)) (Maps.size D0) (w.alloc (.cells #[.map (some bc)] 116)) :=
    AnyZI.keys_gives (ρ := Try.keysA_ren) { Try.keysA with } Fence.wide _ trivial rfl (by omega) w.heap.size bc D.length D0 _ (by simp) (by simp) (by
      obtain ⟨es, clock, hb, Ft, hs, hD⟩ := hown
      exact ⟨es, clock, (Below.heap_alloc _ _ bc hbl).trans hb, Ft, hs, hD⟩)
  have cK : ∀ mb W, CallsIn Fence.wide 5 Try.prog 86 #[.map mb] W fun e w' => e = .returned (.func (.func 110) #[] #[.pointer (some ⟨W.heap.size, 0, none⟩)]) ∧ w' = W.alloc (.cells #[.map mb] 116) := fun mb W => AnyZI.keys_in Try.keysA Fence.wide 5 trivial rfl mb W
  have cS := AnyZI.sorted_in Try.sortedA Fence.wide 5 trivial trivial trivial trivial rfl (by omega) (sortsA _) (enters_of Try.func109 (by kernel_rfl) rfl) 110 #[.pointer (some ⟨w.heap.size, 0, none⟩)] trivial (enters_of Try.func110 (by kernel_rfl) rfl) _ _ (Nat.le_trans hsz (by simp [maxLen])) (by omega) _ hseq
  change CallsIn _ _ Try.prog 85 _ _ _ at cS
  have hfK : Fence.wide.fn 86 := trivial
  have hfS : Fence.wide.fn 85 := trivial
  have HP := Lib.hid hperm
  clear hperm hseq hsz hbl hown hd hcap hg c2 c0 h
  refine callsIn_of_wp Try.func36 rfl trivial ?_ rfl
  simp only [Try.ntmps36, List.size_toArray, List.length_cons, List.length_nil, Nat.reduceAdd, Nat.reduceSub, Array.replicate_succ, Array.replicate_zero, List.push_toArray, List.append_toArray, List.nil_append, List.cons_append]
  gi_wp2_with (first
    | (gi_at_call 86; refine (cK _ _).mono ?_; rintro e w' ⟨rfl, rfl⟩)
    | (gi_at_call 85; refine cS.mono ?_; rintro e w' ⟨v, ss, rfl, hS, hrow, hnil, hb⟩))
  go_ret
  have hp : ss.Perm (pendI D) := hS.trans HP.out
  rw [pend_of_perm hp, hp.length_eq] at hrow
  exact ⟨v, rfl, ownsRow_base_a hrow (by simp), Fr.of_below (((Below.refl _ w).alloc (Nat.le_refl _) _).trans (hb.mono (by simp))) _⟩

end Go.Proofs.Ytmbkmfpnjpkakaa
