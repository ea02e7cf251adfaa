/- The walk of the law NodeBounds: it answers true. Conditions: the shape lies in memory and fits. -/
import Derived.Test.YtajcmpafbcpicaaSmallLaws
import Derived.Test.YtajcmpafbcpicaaKnown
import Derived.Test.YtajcmpafbcpicaaSound
set_option linter.unusedVariables false
set_option linter.unusedSimpArgs false
namespace Go.Proofs.Ytajcmpafbcpicaa
open Go.RowKit

def OfYes (s : Sh) (w : World) (e : Ending) (w' : World) : Prop := ∃ n : Nd, e = .returned (.tuple #[nptr n, .int .i64 0]) ∧ n.sh = s ∧ NIn w' (fun b => w.heap.size ≤ b) n ∧ Below w.heap.size w w'
theorem of_yes {s : Sh} {w : World} {e : Ending} {w' : World} (h : OfPost s w e w') (hm : s.may = true) : OfYes s w e w' := by
  rcases h with ⟨hb, (⟨_, n, rfl, h1, h2⟩ | ⟨h1, rfl⟩)⟩
  · exact ⟨n, rfl, h1, h2, hb⟩
  · rw [hm] at h1; cases h1

set_option maxRecDepth 100000 in
set_option maxHeartbeats 4000000 in
theorem bounds_walk (s : Sh) (hf : s.Fits) (w : World) (pe : Option Addr) (ce : Nat) (pk : Option Addr) (ck : Nat) (hs : SIn w (fun _ => True) s pe pk) :
    Calls Try.prog 6 #[.agg #[.slice pe s.es.length ce, .slice pk s.kids.length ck]] w (BoolPost true w) := by
  have hs' : SIn w (fun b => b < w.heap.size) s pe pk := hs.more fun b _ hl => hl
  have hbx := Boxed.new w pe s.es.length ce pk s.kids.length ck
  have hsW := fun (W : World) (hW : Below w.heap.size w W) => hs'.under hW
  have Hbx := Lib.hid hbx
  have HsW := Lib.hid hsW
  have Hf := Lib.hid hf
  have hB0 : Below w.heap.size w (w.alloc (.cells #[.slice pe s.es.length ce, .slice pk s.kids.length ck] 28)) := hbx.bel
  have HB0 := Lib.hid hB0
  have hcS := small_any s 5 (by omega) _ _ pe ce pk ck (hsW _ hB0)
  have HcS := Lib.hid hcS
  have HK := Lib.hid known_any
  clear hs hs' hbx hsW hf hB0 hcS
  cases hsm : smallS 5 s with
  | false =>
    rw [hsm] at HcS
    go_enter Try.func6, Try.ntmps6
    go_wp2_with (first
      | (go_at_call 30; refine HcS.out.mono ?_; rintro e w1 ⟨rfl, hb1⟩; have Hb1 := Lib.hid (bel_tr HB0.out hb1); clear hb1)
      | (go_at_call 29; refine (HK.out w1).mono ?_; rintro e w2 ⟨rfl, hb2⟩; have Hb2 := Lib.hid (bel_tr Hb1.out hb2); clear hb2))
    go_ret
    exact ⟨rfl, Hb2.out⟩
  | true =>
    rw [hsm] at HcS
    have htrim := small_trim (by omega) hsm
    have hneat := small_neat (by omega) hsm
    have hthin := small_thin hsm
    have hh4 := small_height hsm
    have HcM := Lib.hid (fun (W : World) (hW : Below w.heap.size w W) => rmay_any s htrim W (fun b => b < w.heap.size) pe ce pk ck (fun b hb => Nat.lt_of_lt_of_le hb hW.size) (HsW.out W hW))
    have hcO := (fun (W : World) (hW : Below w.heap.size w W) => of_any s hneat Hf.out htrim W (fun b => b < w.heap.size) pe ce pk ck (HsW.out W hW))
    have HcO := Lib.hid hcO
    have Hthin := Lib.hid hthin
    clear hcO htrim hneat hsm hthin
    cases hm : s.may with
    | false =>
      have HM := Lib.hid hm
      rw [hm] at HcM
      clear hm
      go_enter Try.func6, Try.ntmps6
      go_wp2_with (first
        | (go_at_call 30; refine HcS.out.mono ?_; rintro e w1 ⟨rfl, hb1⟩; have Bx1 := Lib.hid (Hbx.out.under hb1); have x0 := Bx1.out.cells.1; have x1 := Bx1.out.cells.2; have Hb1 := Lib.hid (bel_tr HB0.out hb1); clear hb1)
        | (go_at_call 31; refine (HcM.out w1 Hb1.out).mono ?_; rintro e w2 ⟨rfl, hb2⟩; have Hb2 := Lib.hid (bel_tr Hb1.out hb2); clear hb2)
        | (go_at_call 29; refine (HK.out w2).mono ?_; rintro e w3 ⟨rfl, hb3⟩; have Hb3 := Lib.hid (bel_tr Hb2.out hb3); clear hb3))
      go_ret
      exact ⟨rfl, Hb3.out⟩
    | true =>
      have HM := Lib.hid hm
      rw [hm] at HcM
      clear hm
      go_enter Try.func6, Try.ntmps6
      have HcY := Lib.hid (fun (W : World) (hW : Below w.heap.size w W) => (HcO.out W hW).mono fun e w' h => of_yes h HM.out)
      go_upto_region 4 with (first
        | (go_at_call 30; refine HcS.out.mono ?_; rintro e w1 ⟨rfl, hb1⟩; have Bx1 := Lib.hid (Hbx.out.under hb1); have x0 := Bx1.out.cells.1; have x1 := Bx1.out.cells.2; have Hb1 := Lib.hid (bel_tr HB0.out hb1); clear hb1)
        | (go_at_call 31; refine (HcM.out w1 Hb1.out).mono ?_; rintro e w2 ⟨rfl, hb2⟩; have Bx2 := Lib.hid (Bx1.out.under hb2); have y0 := Bx2.out.cells.1; have y1 := Bx2.out.cells.2; have Hb2 := Lib.hid (bel_tr Hb1.out hb2); clear hb2)
        | (go_at_call 32; refine (HcY.out w2 Hb2.out).mono ?_; rintro e w3 ⟨n, rfl, hsh, hn, hb3⟩; have Hn := Lib.hid hn; have Hsh := Lib.hid hsh; have Hb3 := Lib.hid (bel_tr Hb2.out hb3); clear hb3 hn hsh))
      clear Bx1 Bx2 x0 x1 y0 y1 HcS HcM HcO HcY HB0 Hbx HsW Hb1 Hb2 Hf
      have hhg : n.hgt ≤ 4 := by have : n.hgt = s.height := by rw [Nd.hgt, Hsh.out]
                                 omega
      clear hh4
      by_cases hz : n.hgt = 0
      · have hz1 : ((n.hgt : Int) == 0) = true := by rw [hz]; rfl
        clear hz
        go_wp2_with (first
          | (go_at_call 40; refine (height_any _ Hn.out).mono ?_; rintro e w4 ⟨rfl, rfl⟩)
          | (go_at_call 29; refine (HK.out w3).mono ?_; rintro e w5 ⟨rfl, hb5⟩; have Hb5 := Lib.hid (bel_tr Hb3.out hb5); clear hb5))
        go_ret
        exact ⟨rfl, Hb5.out⟩
      have hz1 : ((n.hgt : Int) == 0) = false := by rw [beq_eq_false_iff_ne]; omega
      have hcq := nsound_any n (by rw [Hsh.out]; exact Hthin.out) true w3 _ Hn.out
      have HcQ := Lib.hid hcq
      clear hcq
      cases hso : n.sh.sound true with
      | false =>
        rw [hso] at HcQ
        clear hz
        go_wp2_with (first
          | (go_at_call 40; refine (height_any _ Hn.out).mono ?_; rintro e w4 ⟨rfl, rfl⟩)
          | (go_at_call 41; refine HcQ.out.mono ?_; rintro e w4 ⟨rfl, q4, rfl⟩)
          | (go_at_call 29; refine (HK.out (w3.drewN q4)).mono ?_; rintro e w5 ⟨rfl, hb5⟩; have Hb5 := Lib.hid (bel_tr (below_drewN Hb3.out q4) hb5); clear hb5))
        go_ret
        exact ⟨rfl, Hb5.out⟩
      | true =>
        rw [hso] at HcQ
        have hlow : 2 * 4 ^ n.hgt ≤ n.cnt := by
          obtain ⟨h, hh⟩ : ∃ h, n.hgt = h + 1 := ⟨n.hgt - 1, by omega⟩
          rw [hh]
          exact root_least h hh (by rw [Hsh.out]; exact HM.out) hso
        have hupp : n.cnt ≤ 8 * 8 ^ n.hgt := may_most n.hgt rfl (by rw [Hsh.out]; exact HM.out)
        have Hlow := Lib.hid hlow
        have Hupp := Lib.hid hupp
        clear hlow hupp hso hz
        go_wp2_with (first
          | (go_at_call 40; refine (height_any _ Hn.out).mono ?_; rintro e w4 ⟨rfl, rfl⟩)
          | (go_at_call 41; refine HcQ.out.mono ?_; rintro e w4 ⟨rfl, q4, rfl⟩))
        have Hn4 := Lib.hid (Hn.out.drewN q4)
        have Hb4 := Lib.hid (below_drewN Hb3.out q4)
        generalize w3.drewN q4 = w4 at Hn4 Hb4 ⊢
        go_loopw [5, 6, 7] (fun v5 v6 v7 wr => ∃ i a b : Nat, i ≤ n.hgt ∧ v7 = .int .i64 i ∧ v5 = .int .i64 a ∧ v6 = .int .i64 b ∧ w4 = wr ∧ Hid (a = 2 * 4 ^ i ∧ b = 8 * 8 ^ i)) (fun v5 v6 v7 _ => n.hgt - (intOf v7).toNat)
        case atStart => exact ⟨0, 2, 8, by omega, rfl, rfl, rfl, rfl, by simp [Hid]⟩
        case round =>
          obtain ⟨i, a, b, hi, rfl, rfl, rfl, rfl, hab⟩ := hrel
          by_cases hlt : i < n.hgt
          · have ha : a ≤ 512 := by rw [hab.out.1]; have := Nat.pow_le_pow_right (n := 4) (by decide) (show i ≤ 4 by omega); omega
            have hb : b ≤ 32768 := by rw [hab.out.2]; have := Nat.pow_le_pow_right (n := 8) (by decide) (show i ≤ 4 by omega); omega
            have hwa : IntKind.i64.wrap ((a : Int) * 4) = (a : Int) * 4 := IntWalk.i64_in _ (by omega)
            have hwb : IntKind.i64.wrap ((b : Int) * 8) = (b : Int) * 8 := IntWalk.i64_in _ (by omega)
            go_wp2_with (go_at_call 40; refine (height_any _ Hn4.out).mono ?_; rintro e w5 ⟨rfl, rfl⟩)
            go_roundw
            case measure => simp [intOf]; omega
            case rel =>
              refine ⟨i + 1, a * 4, b * 8, by omega, by go_num, (by simp), (by simp), (by first | rfl | trivial), ?_, ?_⟩
              · rw [hab.out.1, Nat.pow_succ]; omega
              · rw [hab.out.2, Nat.pow_succ]; omega
          · obtain rfl : i = n.hgt := by omega
            have h1 : decide ((a : Int) ≤ (n.cnt : Int)) = true := decide_eq_true (by have := Hlow.out; rw [← hab.out.1] at this; omega)
            have h2 : decide ((n.cnt : Int) ≤ (b : Int)) = true := decide_eq_true (by have := Hupp.out; rw [← hab.out.2] at this; omega)
            have h1' : decide (a ≤ n.cnt) = true := decide_eq_true (by have := Hlow.out; rw [← hab.out.1] at this; exact this)
            have h2' : decide (n.cnt ≤ b) = true := decide_eq_true (by have := Hupp.out; rw [← hab.out.2] at this; exact this)
            go_wp2_with (first
              | (go_at_call 40; refine (height_any _ Hn4.out).mono ?_; rintro e w5 ⟨rfl, rfl⟩)
              | (go_at_call 42; refine (count_any _ Hn4.out).mono ?_; rintro e w5 ⟨rfl, rfl⟩)
              | (go_at_call 29; refine (HK.out w4).mono ?_; rintro e w6 ⟨rfl, hb6⟩; have Hb6 := Lib.hid (bel_tr Hb4.out hb6); clear hb6))
            go_ret
            exact ⟨rfl, Hb6.out⟩
end Go.Proofs.Ytajcmpafbcpicaa
