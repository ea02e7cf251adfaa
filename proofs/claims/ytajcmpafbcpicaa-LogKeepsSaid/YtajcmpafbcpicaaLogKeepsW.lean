/- The walk of the law LogKeeps: it answers true. Conditions: its numbers are of their kinds. -/
import Derived.Test.YtajcmpafbcpicaaLog4
import Derived.Test.YtajcmpafbcpicaaLogKnown
set_option linter.unusedVariables false
set_option linter.unusedSimpArgs false
namespace Go.Proofs.Ytajcmpafbcpicaa
open Go.RowKit

def nx (a k : Nat) : Nat := if k = 0 then 0 else a + k
theorem nx_succ (a k : Nat) : nx a (k + 1) = a + k + 1 := by simp [nx]; omega
theorem pickN_nat {k : Nat} (h : k < 1000000) : pickN (k : Int) = k % 5 := by
  have e : (k : Int) % 18446744073709551616 = k := Int.emod_eq_of_lt (by omega) (by omega)
  unfold pickN; rw [e]; omega
set_option maxRecDepth 100000 in
set_option maxHeartbeats 4000000 in
theorem logkeeps_main (a K N : Nat) (ha : a ≤ 4611686018427387603) (hK1 : 1 ≤ K) (hK2 : K ≤ 100) (hN : N ≤ 200) (w : World) : Calls Try.prog 10 #[.int .u64 (a : Nat), .int .i64 (K : Nat), .int .i64 (N : Nat)] w fun e w' => e = .returned (.bool true) ∧ Below w.heap.size w w' := by
  have HK := Lib.hid logknown_any
  have HT := Lib.hid trees_any
  have hN' : (N : Int) ≤ 200 := by omega
  have hK1' : (1 : Int) ≤ (K : Int) := by omega
  have hK2' : (K : Int) ≤ 100 := by omega
  have ha' : (a : Int) ≤ 4611686018427387603 := by omega
  have d1 : decide (4611686018427387603 < (a : Int)) = false := decide_eq_false (by omega)
  have d2 : decide ((K : Int) < 1) = false := decide_eq_false (by omega)
  have d3 : decide (100 < (K : Int)) = false := decide_eq_false (by omega)
  have d4 : decide ((N : Int) < 0) = false := decide_eq_false (by omega)
  have d5 : decide (200 < (N : Int)) = false := decide_eq_false (by omega)
  go_enter Try.func10, Try.ntmps10
  go_upto_region 7 with (first
    | (go_at_call 56; refine (lst_new K hK1 (by omega) (fun v => none) w).mono ?_; rintro e w1 ⟨g, gr, rfl, hl1, hg, hgr, hb1⟩; have Hl1 := Lib.hid hl1; have Hb1 := Lib.hid hb1; clear hl1 hb1)
    | (go_at_call 57; refine (HT.out w1).mono ?_; rintro e w2 ⟨gt, r1, r2, r3, r4, rfl, ht, hgt, hab1, hab2, hab3, hab4, hb2⟩; have Hl2 := Lib.hid (Hl1.out.under hb2); have Hb2 := Lib.hid (bel_tr Hb1.out hb2); have Ht := Lib.hid ht; clear ht hb2))
  clear d1 d2 d3 d4 d5
  have Hg := Lib.hid (show w.heap.size ≤ g ∧ w.heap.size ≤ gr ∧ w1.heap.size ≤ gt ∧ g < w1.heap.size ∧ gr < w1.heap.size ∧ w.heap.size ≤ w1.heap.size from ⟨hg, hgr, hgt, Hl1.out.lt.1, Hl1.out.lt.2.1, Hb1.out.size⟩)
  obtain ⟨f, Hf⟩ : ∃ f : Nat → Option Addr, Hid (∀ v, f v = rootN none (some ⟨r1, 0, none⟩) (some ⟨r2, 0, none⟩) (some ⟨r3, 0, none⟩) (some ⟨r4, 0, none⟩) ((v - a) % 5)) := ⟨_, Lib.hid fun v => rfl⟩
  have Hl3 : Hid (LogSt w2 g gr K (nx a 0) (min 0 K) f) := Lib.hid (by
    obtain ⟨ring, h1, h2, h3, _⟩ := Hl2.out
    exact ⟨ring, h1, by rw [Nat.zero_min]; exact h2, by simp, fun v h1 h2 => by simp [nx] at h2⟩)
  clear hg hgr hgt hab1 hab2 hab3 hab4 Hl2 Hl1 Hb1
  go_wp2_with fail
  go_loopw [10] (fun v10 wr => ∃ k : Nat, v10 = .int .i64 (k : Nat) ∧ k ≤ N ∧ Hid (LogSt wr g gr K (nx a k) (min k K) f) ∧ Hid (Blk wr gt 61 #[.pointer none, pa r1, pa r2, pa r3, pa r4]) ∧ Hid (Below w.heap.size w wr)) (fun v10 _ => N - (intOf v10).toNat)
  case atStart => exact ⟨0, rfl, Nat.zero_le _, Hl3, Ht, Hb2⟩
  case round =>
    obtain ⟨k, rfl, hk, HL, HB, HW⟩ := hrel
    clear Hl3 Ht Hb2
    by_cases hlt : k < N
    · have hlt' : (k : Int) < (N : Int) := by omega
      have hpk := pickN_nat (k := k) (by omega)
      have HP := Lib.hid (pick_any HB.out (k : Int))
      have hfk := Hf.out (a + k)
      rw [show (a + k - a) % 5 = pickN (k : Int) by rw [hpk]; congr 1; omega] at hfk
      rw [← hfk] at HP
      have hok : putOk (nx a k) (min k K) (a + k) := by
        refine ⟨by omega, ?_⟩
        unfold nx
        split
        · rename_i h; left; subst h; simp
        · right; rfl
      have Hok := Lib.hid hok
      clear hpk hfk hok
      go_wp2_with (first
        | (go_at_call 62; refine HP.out.mono ?_; rintro e w3 ⟨rfl, hb3⟩
           have HL3 := Lib.hid ((HL.out.under hb3).under (bel_new w3 (.cells #[.pointer (f (a + k))] 61)))
           have HB3 := Lib.hid ((HB.out.under hb3).under (bel_new w3 (.cells #[.pointer (f (a + k))] 61)))
           have HW3 := Lib.hid (bel_al (bel_tr HW.out hb3) (.cells #[.pointer (f (a + k))] 61))
           clear hb3)
        | (go_at_call 58; refine (lst_put_i HL3.out _ (a + k) (by omega) (f (a + k)) Hok.out).mono ?_; rintro e w4 ⟨rfl, hl4, hb4, hk4⟩
           have HL4 := Lib.hid hl4
           have HB4 := Lib.hid hk4
           have HW4 := Lib.hid (below_two HW3.out (hb4 w.heap.size Hg.out.1 Hg.out.2.1 HW3.out.size))
           clear hl4 hb4 hk4))
      go_roundw
      case rel =>
        refine ⟨k + 1, by go_num, by omega, Lib.hid ?_, Lib.hid ?_, HW4⟩
        · have h := HL4.out
          rw [updF_self] at h
          rw [nx_succ]
          have e : min (min k K + 1) K = min (k + 1) K := by omega
          rw [e] at h
          exact h
        · exact (HB4.out gt HB3.out.lt (by have := Hg.out; omega) (by have := Hg.out; omega)).trans HB3.out
      case measure => simp [intOf]; omega
    · obtain rfl : k = N := by omega
      go_wp2_with fail
      go_loopw [13] (fun v13 wr2 => ∃ i : Nat, v13 = .int .i64 (i : Nat) ∧ i ≤ k ∧ Hid (LogSt wr2 g gr K (nx a k) (min k K) f) ∧ Hid (Blk wr2 gt 61 #[.pointer none, pa r1, pa r2, pa r3, pa r4]) ∧ Hid (Below w.heap.size w wr2)) (fun v13 _ => k - (intOf v13).toNat)
      case atStart => exact ⟨0, rfl, Nat.zero_le _, HL, HB, HW⟩
      case round =>
        obtain ⟨i, rfl, hi, HL5, HB5, HW5⟩ := hrel
        clear HL HB HW
        by_cases hlt : i < k
        · have hlt' : (i : Int) < (k : Int) := by omega
          have hnx : nx a k = a + k := by unfold nx; rw [if_neg (by omega)]
          have hpk := pickN_nat (k := i) (by omega)
          have hfk := Hf.out (a + i)
          rw [show (a + i - a) % 5 = pickN (i : Int) by rw [hpk]; congr 1; omega] at hfk
          have Hfk := Lib.hid hfk
          have Hnx := Lib.hid hnx
          clear hpk hfk hnx
          by_cases hkept : (k : Int) - (K : Int) ≤ (i : Int)
          · have hge : decide ((k : Int) - (K : Int) ≤ (i : Int)) = true := decide_eq_true hkept
            go_wp2_with (first
              | (go_at_call 63; refine (lst_at_i HL5.out _ (a + i) (by omega) (by rw [Hnx.out]; omega) (by rw [Hnx.out]; omega)).mono ?_; rintro e w6 ⟨rfl, hb6⟩
                 have HL6 := Lib.hid ((HL5.out.under hb6).under (bel_new w6 (.cells #[.pointer (f (a + i))] 61)))
                 have HB6 := Lib.hid ((HB5.out.under hb6).under (bel_new w6 (.cells #[.pointer (f (a + i))] 61)))
                 have HW6 := Lib.hid (bel_al (bel_tr HW5.out hb6) (.cells #[.pointer (f (a + i))] 61))
                 have T6 := Lib.hid (Blk.new w6 61 #[.pointer (f (a + i))])
                 clear hb6)
              | (go_at_call 62; refine (pick_any HB6.out (i : Int)).mono ?_; rintro e w7 ⟨rfl, hb7⟩
                 rw [← Hfk.out]
                 have HL7 := Lib.hid ((HL6.out.under hb7).under (bel_new w7 (.cells #[.pointer (f (a + i))] 61)))
                 have HB7 := Lib.hid ((HB6.out.under hb7).under (bel_new w7 (.cells #[.pointer (f (a + i))] 61)))
                 have HW7 := Lib.hid (bel_al (bel_tr HW6.out hb7) (.cells #[.pointer (f (a + i))] 61))
                 have T7 := Lib.hid ((T6.out.under hb7).under (bel_new w7 (.cells #[.pointer (f (a + i))] 61)))
                 have c7 := T7.out.cell 0
                 simp at c7
                 clear hb7)
              | (go_at_call 64; refine (is_self (f (a + i)) _).mono ?_; rintro e w8 ⟨rfl, hb8⟩
                 have HL8 := Lib.hid (HL7.out.under hb8)
                 have HB8 := Lib.hid (HB7.out.under hb8)
                 have HW8 := Lib.hid (bel_tr HW7.out hb8)
                 clear hb8))
            go_roundw
            case rel => exact ⟨i + 1, by go_num, by omega, HL8, HB8, HW8⟩
            case measure => simp [intOf]; omega
          · have hge : decide ((k : Int) - (K : Int) ≤ (i : Int)) = false := decide_eq_false hkept
            go_wp2_with (first
              | (go_at_call 63; refine (lst_at_no_i HL5.out _ (a + i) (by omega) (by right; right; rw [Hnx.out]; omega)).mono ?_; rintro e w6 ⟨rfl, hb6⟩
                 have HL6 := Lib.hid ((HL5.out.under hb6).under (bel_new w6 (.cells #[.pointer none] 61)))
                 have HB6 := Lib.hid ((HB5.out.under hb6).under (bel_new w6 (.cells #[.pointer none] 61)))
                 have HW6 := Lib.hid (bel_al (bel_tr HW5.out hb6) (.cells #[.pointer none] 61))
                 clear hb6)
              | (go_at_call 62; refine (pick_any HB6.out (i : Int)).mono ?_; rintro e w7 ⟨rfl, hb7⟩
                 rw [← Hfk.out]
                 have HL7 := Lib.hid ((HL6.out.under hb7).under (bel_new w7 (.cells #[.pointer (f (a + i))] 61)))
                 have HB7 := Lib.hid ((HB6.out.under hb7).under (bel_new w7 (.cells #[.pointer (f (a + i))] 61)))
                 have HW7 := Lib.hid (bel_al (bel_tr HW6.out hb7) (.cells #[.pointer (f (a + i))] 61))
                 clear hb7))
            go_roundw
            case rel => exact ⟨i + 1, by go_num, by omega, HL7, HB7, HW7⟩
            case measure => simp [intOf]; omega
        · obtain rfl : i = k := by omega
          go_wp2_with (first
            | (go_at_call 63; refine (lst_at_no_i HL5.out _ (a + i) (by omega) (by
                by_cases h0 : i = 0
                · left; omega
                · right; left; unfold nx; rw [if_neg h0]; omega)).mono ?_; rintro e w6 ⟨rfl, hb6⟩; have HW6 := Lib.hid (bel_al (bel_tr HW5.out hb6) (.cells #[.pointer none] 61)); clear hb6)
            | (go_at_call 60; refine (HK.out _).mono ?_; rintro e w7 ⟨rfl, hb7⟩; have HW7 := Lib.hid (bel_tr HW6.out hb7); clear hb7))
          go_ret
          exact ⟨rfl, HW7.out⟩
theorem logkeeps_no0 (a K N : Int) (h0 : 4611686018427387603 < a) (w : World) : Calls Try.prog 10 #[.int .u64 a, .int .i64 K, .int .i64 N] w fun e w' => e = .returned (.bool true) ∧ Below w.heap.size w w' := by
  have d0 : decide (4611686018427387603 < a) = true := decide_eq_true h0
  clear h0
  go_enter Try.func10, Try.ntmps10
  go_wp2_with (go_at_call 60; refine (logknown_any _).mono ?_; rintro e w1 ⟨rfl, hb1⟩; have Hb1 := Lib.hid hb1; clear hb1)
  go_ret
  exact ⟨rfl, Hb1.out⟩
theorem logkeeps_no1 (a K N : Int) (h0 : ¬ 4611686018427387603 < a) (h1 : K < 1) (w : World) : Calls Try.prog 10 #[.int .u64 a, .int .i64 K, .int .i64 N] w fun e w' => e = .returned (.bool true) ∧ Below w.heap.size w w' := by
  have d0 : decide (4611686018427387603 < a) = false := decide_eq_false h0
  have d1 : decide (K < 1) = true := decide_eq_true h1
  clear h0 h1
  go_enter Try.func10, Try.ntmps10
  go_wp2_with (go_at_call 60; refine (logknown_any _).mono ?_; rintro e w1 ⟨rfl, hb1⟩; have Hb1 := Lib.hid hb1; clear hb1)
  go_ret
  exact ⟨rfl, Hb1.out⟩
theorem logkeeps_no2 (a K N : Int) (h0 : ¬ 4611686018427387603 < a) (h1 : ¬ K < 1) (h2 : 100 < K) (w : World) : Calls Try.prog 10 #[.int .u64 a, .int .i64 K, .int .i64 N] w fun e w' => e = .returned (.bool true) ∧ Below w.heap.size w w' := by
  have d0 : decide (4611686018427387603 < a) = false := decide_eq_false h0
  have d1 : decide (K < 1) = false := decide_eq_false h1
  have d2 : decide (100 < K) = true := decide_eq_true h2
  clear h0 h1 h2
  go_enter Try.func10, Try.ntmps10
  go_wp2_with (go_at_call 60; refine (logknown_any _).mono ?_; rintro e w1 ⟨rfl, hb1⟩; have Hb1 := Lib.hid hb1; clear hb1)
  go_ret
  exact ⟨rfl, Hb1.out⟩
theorem logkeeps_no3 (a K N : Int) (h0 : ¬ 4611686018427387603 < a) (h1 : ¬ K < 1) (h2 : ¬ 100 < K) (h3 : N < 0) (w : World) : Calls Try.prog 10 #[.int .u64 a, .int .i64 K, .int .i64 N] w fun e w' => e = .returned (.bool true) ∧ Below w.heap.size w w' := by
  have d0 : decide (4611686018427387603 < a) = false := decide_eq_false h0
  have d1 : decide (K < 1) = false := decide_eq_false h1
  have d2 : decide (100 < K) = false := decide_eq_false h2
  have d3 : decide (N < 0) = true := decide_eq_true h3
  clear h0 h1 h2 h3
  go_enter Try.func10, Try.ntmps10
  go_wp2_with (go_at_call 60; refine (logknown_any _).mono ?_; rintro e w1 ⟨rfl, hb1⟩; have Hb1 := Lib.hid hb1; clear hb1)
  go_ret
  exact ⟨rfl, Hb1.out⟩
theorem logkeeps_no4 (a K N : Int) (h0 : ¬ 4611686018427387603 < a) (h1 : ¬ K < 1) (h2 : ¬ 100 < K) (h3 : ¬ N < 0) (h4 : 200 < N) (w : World) : Calls Try.prog 10 #[.int .u64 a, .int .i64 K, .int .i64 N] w fun e w' => e = .returned (.bool true) ∧ Below w.heap.size w w' := by
  have d0 : decide (4611686018427387603 < a) = false := decide_eq_false h0
  have d1 : decide (K < 1) = false := decide_eq_false h1
  have d2 : decide (100 < K) = false := decide_eq_false h2
  have d3 : decide (N < 0) = false := decide_eq_false h3
  have d4 : decide (200 < N) = true := decide_eq_true h4
  clear h0 h1 h2 h3 h4
  go_enter Try.func10, Try.ntmps10
  go_wp2_with (go_at_call 60; refine (logknown_any _).mono ?_; rintro e w1 ⟨rfl, hb1⟩; have Hb1 := Lib.hid hb1; clear hb1)
  go_ret
  exact ⟨rfl, Hb1.out⟩
theorem logkeeps_walk (a : Int) (ha : 0 ≤ a ∧ a ≤ 18446744073709551615) (K : Int) (hK : -9223372036854775808 ≤ K ∧ K ≤ 9223372036854775807) (N : Int) (hN : -9223372036854775808 ≤ N ∧ N ≤ 9223372036854775807) (w : World) : Calls Try.prog 10 #[.int .u64 a, .int .i64 K, .int .i64 N] w fun e w' => e = .returned (.bool true) ∧ Below w.heap.size w w' := by
  by_cases h0 : 4611686018427387603 < a
  · exact logkeeps_no0 a K N h0 w
  by_cases h1 : K < 1
  · exact logkeeps_no1 a K N h0 h1 w
  by_cases h2 : 100 < K
  · exact logkeeps_no2 a K N h0 h1 h2 w
  by_cases h3 : N < 0
  · exact logkeeps_no3 a K N h0 h1 h2 h3 w
  by_cases h4 : 200 < N
  · exact logkeeps_no4 a K N h0 h1 h2 h3 h4 w
  obtain ⟨a', rfl⟩ := Int.eq_ofNat_of_zero_le ha.1
  obtain ⟨K', rfl⟩ := Int.eq_ofNat_of_zero_le (show 0 ≤ K by omega)
  obtain ⟨N', rfl⟩ := Int.eq_ofNat_of_zero_le (show 0 ≤ N by omega)
  exact logkeeps_main a' K' N' (by omega) (by omega) (by omega) (by omega) w
end Go.Proofs.Ytajcmpafbcpicaa
