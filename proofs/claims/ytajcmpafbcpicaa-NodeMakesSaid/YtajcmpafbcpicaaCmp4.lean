/- The document's Compare of any two values. Conditions: both lie in memory and fit. -/
import Derived.Test.YtajcmpafbcpicaaCmp3
set_option linter.unusedVariables false
set_option linter.unusedSimpArgs false
namespace Go.Proofs.Ytajcmpafbcpicaa
open Go.RowKit

theorem rcompare_any {x : V} (hx : x.Fits) : CmpC x := by
  induction hx with
  | @mk k b n t l o ht hl ho hk hll hoo ih1 ih2 =>
  intro y hy w S T pl po ql qo cl co dl dO hv hv'
  obtain ⟨k', b', n', t', l', o'⟩ := y
  show Calls Try.prog _ #[.agg (vagg k b n t pl l.length cl po o.length co), .agg (vagg k' b' n' t' ql l'.length dl qo o'.length dO)] w (IntB (V.cmp (.mk k b n t l o) (.mk k' b' n' t' l' o')) w)
  by_cases h : k = k'
  · subst h
    by_cases h2 : k = 2
    · subst h2
      rw [show V.cmp (.mk 2 b n t l o) (.mk 2 b' n' t' l' o') = tr b - tr b' by simp [V.cmp, V.kind, V.bool, V.num, V.text, V.list, V.obj]]
      apply cmp_bool
    · by_cases h3 : k = 3
      · subst h3
        rw [show V.cmp (.mk 3 b n t l o) (.mk 3 b' n' t' l' o') = cmpI n n' by simp [V.cmp, V.kind, V.bool, V.num, V.text, V.list, V.obj]]
        apply cmp_int
      · by_cases h4 : k = 4
        · subst h4
          rw [show V.cmp (.mk 4 b n t l o) (.mk 4 b' n' t' l' o') = cmpT t t' by simp [V.cmp, V.kind, V.bool, V.num, V.text, V.list, V.obj]]
          exact cmp_text _ _ _ _ _ _ _ _ _ _ _ _ _ _ _ _ _ _ _ ht hy.text
        · by_cases h5 : k = 5
          · subst h5
            rw [show V.cmp (.mk 5 b n t l o) (.mk 5 b' n' t' l' o') = cmpL l l' by simp [V.cmp, V.kind, V.bool, V.num, V.text, V.list, V.obj]]
            exact cmp_list l l' hl hy.llen ih1 (fun z hz => hy.elem hz) _ _ _ _ _ _ _ _ _ _ _ _ _ _ _ _ _ S T hv.list_ hv'.list_
          · by_cases h6 : k = 6
            · subst h6
              rw [show V.cmp (.mk 6 b n t l o) (.mk 6 b' n' t' l' o') = cmpO o o' by simp [V.cmp, V.kind, V.bool, V.num, V.text, V.list, V.obj]]
              exact cmp_obj o o' ho hy.olen ih2 (fun z hz => (hy.memb hz).2) hk (fun z hz => (hy.memb hz).1) _ _ _ _ _ _ _ _ _ _ _ _ _ _ _ _ _ S T hv.obj_ hv'.obj_
            · rw [show V.cmp (.mk k b n t l o) (.mk k b' n' t' l' o') = 0 by simp [V.cmp, V.kind, h2, h3, h4, h5, h6]]
              exact cmp_other _ _ _ _ _ _ _ _ _ _ _ _ _ _ _ _ _ _ _ _ h2 h3 h4 h5 h6
  · rw [show V.cmp (.mk k b n t l o) (.mk k' b' n' t' l' o') = cmpI k k' by simp [V.cmp, V.kind, h]]
    exact cmp_kind _ _ _ _ _ _ _ _ _ _ _ _ _ _ _ _ _ _ _ _ _ h
end Go.Proofs.Ytajcmpafbcpicaa
