/- The bounds of a law's numbers. No conditions. -/
import Derived.Test.YtnngkjjabccglaaTLawPost
set_option linter.unusedVariables false
set_option linter.unusedSimpArgs false
namespace Go.Proofs.Ytnngkjjabccglaa
open Go.ChangeShapes Go.WideShapes Go.ChangeAt Go.RowKit

theorem wf_u64_of {n : Int} (h : (Lit.int .u64 n).wf = true) : 0 ≤ n ∧ n ≤ 18446744073709551615 := by
  simp [Lit.wf, IntKind.min, IntKind.max, IntKind.signed, IntKind.bits] at h
  omega
theorem wf_i64_of {n : Int} (h : (Lit.int .i64 n).wf = true) : -9223372036854775808 ≤ n ∧ n ≤ 9223372036854775807 := by
  simp [Lit.wf, IntKind.min, IntKind.max, IntKind.signed, IntKind.bits] at h
  omega
theorem law_int {H : Type} {enc : TypeId × Value → H} {P : Program} {w : World} {base : Nat} {spare : Nat → Bool} {held : Bool} {t : TypeId} {k : IntKind} {n : Int} {d : DataW H} {ps : List MemPlace}
    (ht : P.underlying t = some (.int k)) (hd : DataW.Trod enc P w base spare held t (.int k n) d ps) : (Lit.int k n).wf = true := by
  obtain ⟨fuel, hf⟩ := hd
  obtain ⟨n', h, hx, hw⟩ := DataW.trod_int ht hf
  have e : [Value.int k n] = [.int k n'] := h
  injection e with e
  injection e with _ e
  rw [e]; exact hw
end Go.Proofs.Ytnngkjjabccglaa
