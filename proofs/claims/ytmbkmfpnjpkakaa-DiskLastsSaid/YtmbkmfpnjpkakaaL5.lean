/- The law helper mixed: a text is a prefix of the one and the rest of the other. -/
import Derived.Test.YtmbkmfpnjpkakaaL4
namespace Go.Im
open Go
/-- What a lookup in a map yields. -/
theorem yields_lookup {P : Program} {o : Oper} {a : Act} {w : World} (m x : Operand) (t : TypeId) (hop : o.op = Op.lookup t m x false) {kt et : TypeId} {kd : IntKind} (ht : P.underlying t = some (.map kt et)) (hk : P.underlying kt = some (.int kd))
    {z : Value} (hz : (zeroValue et).run P w = .ok z w) {b : Nat} {f} (k : Int) (hm : a.eval m = .map (some b)) (hx : a.eval x = .int .i64 k) (h : At w b f) (v : Value) (hv : (f k).getD z = v) : (execOp a.eval o).run P w = .ok (.value v) w := by
  subst hv
  simp only [execOp, hop, hm, hx, Sem.run_bind, run_lookup ht hk hz h, Result.andThen_ok, Sem.run_pure]
  rfl
end Go.Im
namespace Go.Proofs.Ytmbkmfpnjpkakaa
open Go.RowKit Go.Im Go.Dsk0

theorem mix_eq {S F O : ByteArray} {m : Nat} (hO : O.size = 64) (h : S.data.toList = F.data.toList.take m ++ O.data.toList.drop m) : S = F.extract 0 m ++ O.extract m 64 := by
  apply ByteArray.ext
  apply Array.ext'
  rw [h, ByteArray.data_append, ByteArray.data_extract, ByteArray.data_extract, Array.toList_append, Array.toList_extract, Array.toList_extract]
  have h1 : O.data.toList.length = 64 := hO
  have h2 : (O.data.toList.drop m).take (64 - m) = O.data.toList.drop m := List.take_of_length_le (by simp [h1])
  simp [List.extract_eq_take_drop, h2]

set_option maxRecDepth 100000 in
theorem mixed_calls (S F O : ByteArray) (m : Nat) (w : World) (hF : F.size = 64) (hO : O.size = 64) (hm : m ≤ 64) (h : S.data.toList = F.data.toList.take m ++ O.data.toList.drop m) :
    Calls Try.prog 35 #[.string S, .string F, .string O] w fun e w' => e = .returned (.bool true) ∧ Fr (fun _ => False) w w' := by
  have HH := Lib.hid h; clear h
  go_enter Try.func35, Try.ntmps35
  go_wp2_with fail
  go_loopg [7] m (fun n t wr => ∃ k : Nat, n + k = m ∧ t = .int .i64 k ∧ Fr (fun _ => False) w wr)
  case atStart => exact ⟨0, rfl, rfl, Fr.refl _ _⟩
  case round =>
    obtain ⟨k, hn, rfl, hfr⟩ := hrel
    have HN := Lib.hid hn; clear hn
    have k0 : (0 : Int) ≤ k := by omega
    have hkm : k ≤ m := by have := HN.out; omega
    have k1 : (k : Int) ≤ 64 := by omega
    by_cases he : S = F.extract 0 k ++ O.extract k 64
    · have hb : (S.toList == (F.extract 0 k ++ O.extract k 64).toList) = true := (Lib.bytes_beq_iff _ _).2 he
      clear he
      go_wp2_with fail
      go_quiet (fail)
      go_wp2_with fail
      go_ret
      exact ⟨rfl, hfr.drewN _⟩
    · have hb : (S.toList == (F.extract 0 k ++ O.extract k 64).toList) = false := (Lib.bytes_beq_false_iff _ _).2 he
      have hlt : k < m := by
        rcases Nat.lt_or_ge k m with h | h
        · exact h
        · have : k = m := by omega
          subst this
          exact absurd (mix_eq hO HH.out) he
      clear he
      go_wp2_with fail
      go_quiet (fail)
      go_wp2_with fail
      have hn : gk + k = m := HN.out
      go_roundg (gk - 1)
      case measure => omega
      case rel => exact ⟨k + 1, by omega, by go_num, hfr.drewN _⟩

end Go.Proofs.Ytmbkmfpnjpkakaa
