/- sort.Search over a predicate that parts the places. Conditions: the predicate's contract. -/
import Derived.Test.YtnngkjjabccglaaTMem
import Derived.Shelf.Abstract
import Derived.Deep.LoopGhost
import Derived.LoopTactic
import Derived.WalkKit
import Derived.Deep.Cut
import Derived.Test.YtnngkjjabccglaaProg
set_option linter.unusedVariables false
set_option linter.unusedSimpArgs false
namespace Go.Proofs.Ytnngkjjabccglaa
open Go.RowKit

/-- sort.Search over a predicate that parts the places: how many say no. -/
theorem search_any (g : Nat) (cb : Array Value) (n : Nat) (hn : n ≤ 1099511627776) (p : Nat → Bool) (w : World) (eg : ∀ args w, (callFunc g args).run Try.prog w = .ok (.enter g args) w)
    (hf : ∀ (W : World) (i : Nat), Below w.heap.size w W → i < n → Calls Try.prog g (#[.int .i64 i] ++ cb) W fun e w' => e = .returned (.bool (p i)) ∧ Below W.heap.size W w')
    (hm : ∀ i j, i ≤ j → j < n → p i = true → p j = true) :
    Calls Try.prog 31 #[.int .i64 n, .func (.func g) #[] cb] w fun e w' => (∃ c : Nat, e = .returned (.int .i64 c) ∧ c ≤ n ∧ (∀ i, i < c → p i = false) ∧ (∀ i, c ≤ i → i < n → p i = true)) ∧ Below w.heap.size w w' := by
  have Hf := Lib.hid hf
  have Hm := Lib.hid hm
  clear hf hm
  go_enter Try.func31, Try.ntmps31
  go_wp2_with fail
  go_loopg [5, 6, 7] n (fun kx s5 s6 s7 wr => ∃ lo hi : Nat, s5 = .int .i64 lo ∧ s6 = .int .i64 hi ∧ lo ≤ hi ∧ hi ≤ n ∧ hi - lo ≤ kx ∧ Hid (Below w.heap.size w wr) ∧ Hid ((∀ t, t < lo → p t = false) ∧ (∀ t, hi ≤ t → t < n → p t = true)))
  case atStart => exact ⟨0, n, rfl, rfl, Nat.zero_le _, Nat.le_refl _, by omega, Below.refl _ _, fun t ht => absurd ht (Nat.not_lt_zero _), fun t h1 h2 => by omega⟩
  case round =>
    obtain ⟨lo, hi, rfl, rfl, hlh, hin, hg, Hb, I⟩ := hrel
    by_cases hlt : lo < hi
    · have hc := Hf.out wr ((lo + hi) / 2) Hb.out (by omega)
      rw [show (((lo + hi) / 2 : Nat) : Int) = ((lo : Int) + (hi : Int)) / 2 by omega] at hc
      cases hp : p ((lo + hi) / 2) <;> rw [hp] at hc
      · have HP := Lib.hid hp
        have Hc := Lib.hid hc
        clear hp hc
        go_wp2_with fail
        refine Hc.out.mono ?_
        rintro e w1 ⟨rfl, hb1⟩
        have Hb1 := Lib.hid hb1
        clear hb1
        go_wp2_with fail
        go_roundg (hi - ((lo + hi) / 2 + 1))
        case measure => omega
        case rel =>
          refine ⟨(lo + hi) / 2 + 1, hi, by go_num, rfl, by omega, hin, by omega, bel_tr Hb.out Hb1.out, fun t ht => ?_, I.out.2⟩
          cases hq : p t with
          | false => rfl
          | true => have := Hm.out t ((lo + hi) / 2) (by omega) (by omega) hq; rw [HP.out] at this; cases this
      · have HP := Lib.hid hp
        have Hc := Lib.hid hc
        clear hp hc
        go_wp2_with fail
        refine Hc.out.mono ?_
        rintro e w1 ⟨rfl, hb1⟩
        have Hb1 := Lib.hid hb1
        clear hb1
        go_wp2_with fail
        go_roundg ((lo + hi) / 2 - lo)
        case measure => omega
        case rel =>
          refine ⟨lo, (lo + hi) / 2, rfl, by first | rfl | go_num, by omega, by omega, by omega, bel_tr Hb.out Hb1.out, I.out.1, fun t h1 h2 => ?_⟩
          exact Hm.out ((lo + hi) / 2) t h1 h2 HP.out
    · obtain rfl : lo = hi := by omega
      go_wp2_with fail
      go_ret
      exact ⟨⟨lo, rfl, hin, I.out.1, I.out.2⟩, Hb.out⟩

end Go.Proofs.Ytnngkjjabccglaa
