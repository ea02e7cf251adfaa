/- The laws' small, and the document's Sound of a shape. Conditions: the shape lies in memory; for Sound: its lists are small. -/
import Derived.Test.YtajcmpafbcpicaaRef1
set_option linter.unusedVariables false
set_option linter.unusedSimpArgs false
namespace Go.Proofs.Ytajcmpafbcpicaa
open Go.RowKit

def BoolPost (b : Bool) (w : World) (e : Ending) (w' : World) : Prop := e = .returned (.bool b) ∧ Below w.heap.size w w'

def smallS : Nat → Sh → Bool
  | 0, _ => false
  | d + 1, s => decide (s.es.length ≤ 20) && decide (s.kids.length ≤ 20) && s.kids.all (smallS d) && decide (s.nodes ≤ 400)

theorem small_nodes {d : Nat} {s : Sh} (h : smallS d s = true) : s.nodes ≤ 400 := by
  cases d with
  | zero => simp [smallS] at h
  | succ d => simp [smallS] at h; exact h.2
theorem small_kid {d : Nat} {s : Sh} (h : smallS d s = true) : s.es.length ≤ 20 ∧ s.kids.length ≤ 20 ∧ ∃ d', d = d' + 1 ∧ ∀ k ∈ s.kids, smallS d' k = true := by
  cases d with
  | zero => simp [smallS] at h
  | succ d => simp [smallS] at h; exact ⟨h.1.1.1, h.1.1.2, d, rfl, h.1.2⟩
theorem nodess_small {d : Nat} : ∀ {ks : List Sh}, ks.all (smallS d) = true → nodess ks ≤ 400 * ks.length
  | [], _ => by simp [nodess]
  | k :: l, h => by
    simp only [List.all_cons, Bool.and_eq_true] at h
    have h1 := small_nodes h.1
    have h2 := nodess_small h.2
    simp [nodess]; omega
theorem small_height {d : Nat} : ∀ {s : Sh}, smallS d s = true → s.height + 1 ≤ d := by
  induction d with
  | zero => intro s h; simp [smallS] at h
  | succ d ih =>
    intro s h
    obtain ⟨es, ks⟩ := s
    cases ks with
    | nil => simp [Sh.height]
    | cons k l =>
      obtain ⟨_, _, d', hd, hk⟩ := small_kid h
      obtain rfl : d = d' := by omega
      have := ih (hk k (by simp [Sh.kids]))
      simp [Sh.height]; omega

set_option maxHeartbeats 2000000 in
theorem small_any (s : Sh) : ∀ (d : Nat), d ≤ 1000 → ∀ (w : World) (S : Nat → Prop) (pe : Option Addr) (ce : Nat) (pk : Option Addr) (ck : Nat), SIn w S s pe pk →
    Calls Try.prog 30 #[.agg #[.slice pe s.es.length ce, .slice pk s.kids.length ck], .int .i64 (d : Nat)] w (BoolPost (smallS d s) w) := by
  induction s using Sh.ind with
  | h es ks ih =>
  intro d hd w S pe ce pk ck hs
  have Hs := Lib.hid hs
  have hk := hs.kids_
  simp only [Sh.es, Sh.kids] at hk ⊢
  have Hk := Lib.hid hk
  have Ih := Lib.hid ih
  clear hk hs ih
  have Hbx := Lib.hid (Boxed.new w pe es.length ce pk ks.length ck)
  cases d with
  | zero =>
    go_enter Try.func30, Try.ntmps30
    go_wp2_with fail
    go_ret
    exact ⟨by simp [smallS], Hbx.out.bel⟩
  | succ d =>
  have hdz : (((d : Int) + 1) == 0) = false := by simp; omega
  have hdw : IntKind.i64.wrap (((d : Int) + 1) - 1) = (d : Int) := by rw [IntWalk.i64_in _ (by omega)]; omega
  rw [show (((d + 1 : Nat) : Int)) = (d : Int) + 1 by omega]
  by_cases he : 20 < es.length
  · have he' : decide ((20 : Int) < (es.length : Int)) = true := decide_eq_true (by omega)
    go_enter Try.func30, Try.ntmps30
    go_wp2_with fail
    go_ret
    refine ⟨?_, Hbx.out.bel⟩
    have : ¬ es.length ≤ 20 := by omega
    simp [smallS, Sh.es, this]
  by_cases hkn : 20 < ks.length
  · have he' : decide ((20 : Int) < (es.length : Int)) = false := decide_eq_false (by omega)
    have hk' : decide ((20 : Int) < (ks.length : Int)) = true := decide_eq_true (by omega)
    go_enter Try.func30, Try.ntmps30
    go_wp2_with fail
    go_ret
    refine ⟨?_, Hbx.out.bel⟩
    have : ¬ ks.length ≤ 20 := by omega
    simp [smallS, Sh.kids, this]
  have he' : decide ((20 : Int) < (es.length : Int)) = false := decide_eq_false (by omega)
  have hk' : decide ((20 : Int) < (ks.length : Int)) = false := decide_eq_false (by omega)
  go_enter Try.func30, Try.ntmps30
  go_wp2_with fail
  go_loopw [5] (fun vi wr => ∃ i : Nat, i ≤ ks.length ∧ vi = .int .i64 i ∧ Hid ((ks.take i).all (smallS d) = true) ∧ Hid (Boxed w pe es.length ce pk ks.length ck wr)) (fun vi _ => ks.length - (intOf vi).toNat)
  case atStart => exact ⟨0, by omega, rfl, by simp [Hid], Hbx⟩
  case round =>
    obtain ⟨i, hi, rfl, Ha, Hr⟩ := hrel
    obtain ⟨b0, b1⟩ := Hr.out.cells
    by_cases hlt : i < ks.length
    · obtain ⟨k, hk⟩ : ∃ k, ks[i]? = some k := ⟨_, List.getElem?_eq_getElem hlt⟩
      obtain ⟨a, qe, de, qk, dk, rfl, c0, c1, hsk⟩ := Hk.out.cells hk
      have hax := World.block_lt_of_cell? w _ c0
      have c0' := Hr.out.bel.cell (p := a.add (i * 2)) hax
      have c1' := Hr.out.bel.cell (p := ⟨(a.add (i * 2)).block, (a.add (i * 2)).off + 1, none⟩) hax
      rw [c0] at c0'
      rw [c1] at c1'
      have hc := Ih.out k (List.mem_of_getElem? hk) d (by omega) wr S qe de qk dk (hsk.under Hr.out.bel)
      have Hc := Lib.hid hc
      have HK := Lib.hid hk
      clear c0 c1 hsk hc hk
      cases hb : smallS d k with
      | false =>
        rw [hb] at Hc
        go_wp2_with (go_at_call 30; refine Hc.out.mono ?_; rintro e w1 ⟨rfl, hb1⟩; have Hb1 := Lib.hid hb1; clear hb1)
        go_ret
        refine ⟨?_, (Hr.out.under Hb1.out).bel⟩
        have : ks.all (smallS d) = false := by
          rw [List.all_eq_false]
          exact ⟨k, List.mem_of_getElem? HK.out, by simp [hb]⟩
        simp [smallS, Sh.kids, this]
      | true =>
        rw [hb] at Hc
        go_wp2_with (go_at_call 30; refine Hc.out.mono ?_; rintro e w1 ⟨rfl, hb1⟩; have Hb1 := Lib.hid hb1; clear hb1)
        go_roundw
        case measure => simp [intOf]; omega
        case rel =>
          refine ⟨i + 1, by omega, by go_num, ?_, Hr.out.under Hb1.out⟩
          have h1 := Ha.out
          rw [List.take_add_one, HK.out]
          show _ = true
          simp only [List.all_append, h1, Option.toList_some, List.all_cons, hb, List.all_nil, Bool.and_self]
    · obtain rfl : i = ks.length := by omega
      have hall := Ha.out
      rw [List.take_length] at hall
      have hns := nodess_small hall
      have hc := rnodes_any (.mk es ks) (by simp only [Sh.nodes]; omega) wr S pe ce pk ck (Hs.out.under Hr.out.bel)
      simp only [Sh.es, Sh.kids] at hc
      have Hc := Lib.hid hc
      have Hall := Lib.hid hall
      clear hc hall
      have hdec : decide ((((Sh.mk es ks).nodes : Nat) : Int) ≤ 400) = decide ((Sh.mk es ks).nodes ≤ 400) := by
        by_cases h : (Sh.mk es ks).nodes ≤ 400
        · rw [decide_eq_true h, decide_eq_true (by omega)]
        · rw [decide_eq_false h, decide_eq_false (by omega)]
      go_wp2_with (go_at_call 51; refine Hc.out.mono ?_; rintro e w1 ⟨rfl, hb1⟩; have Hb1 := Lib.hid hb1; clear hb1)
      go_ret
      refine ⟨?_, (Hr.out.under Hb1.out).bel⟩
      have h1 : es.length ≤ 20 := by omega
      have h2 : ks.length ≤ 20 := by omega
      have h3 := Hall.out
      simp [smallS, Sh.kids, Sh.es, h1, h2, h3]

theorem sounds_all (l : List Sh) : sounds l = l.all fun k => k.sound false := by
  induction l with
  | nil => simp [sounds]
  | cons x l ih => simp [sounds, ih]
/-- None of a shape's lists is long. -/
inductive Sh.Thin : Sh → Prop
  | mk {es : List En} {kids : List Sh} (he : es.length ≤ 1099511627776) (hk : kids.length ≤ 1099511627776) (hks : ∀ k, k ∈ kids → Sh.Thin k) : Sh.Thin (.mk es kids)
theorem small_thin {d : Nat} : ∀ {s : Sh}, smallS d s = true → s.Thin := by
  induction d with
  | zero => intro s h; simp [smallS] at h
  | succ d ih =>
    intro s h
    obtain ⟨h1, h2, d', hd, hk⟩ := small_kid h
    obtain rfl : d = d' := by omega
    obtain ⟨es, ks⟩ := s
    simp only [Sh.es, Sh.kids] at h1 h2 hk
    exact .mk (by omega) (by omega) fun k hk' => ih (hk k hk')

set_option maxHeartbeats 2000000 in
theorem rsound_any (s : Sh) (ht : s.Thin) : ∀ (root : Bool) (w : World) (S : Nat → Prop) (pe : Option Addr) (ce : Nat) (pk : Option Addr) (ck : Nat), SIn w S s pe pk →
    Calls Try.prog 49 #[.agg #[.slice pe s.es.length ce, .slice pk s.kids.length ck], .bool root] w (BoolPost (s.sound root) w) := by
  induction ht with
  | @mk es ks hel hkl hks ih =>
  intro root w S pe ce pk ck hs
  have hk := hs.kids_
  simp only [Sh.es, Sh.kids] at hk ⊢
  have Hk := Lib.hid hk
  have Ih := Lib.hid ih
  clear hk hs ih hks
  have Hbx := Lib.hid (Boxed.new w pe es.length ce pk ks.length ck)
  have hw1 : IntKind.i64.wrap ((es.length : Int) + (ks.length : Int)) = (es.length : Int) + (ks.length : Int) := IntWalk.i64_in _ (by omega)
  by_cases hno : root = false ∧ es.length + ks.length < 4
  · obtain ⟨rfl, h4⟩ := hno
    have h4' : decide ((es.length : Int) + (ks.length : Int) < 4) = true := decide_eq_true (by omega)
    go_enter Try.func49, Try.ntmps49
    go_wp2_with fail
    go_ret
    refine ⟨?_, Hbx.out.bel⟩
    have : ¬ 4 ≤ es.length + ks.length := by omega
    simp [Sh.sound, this]
  have hyes : (root || decide (4 ≤ es.length + ks.length)) = true := by
    cases root with
    | true => rfl
    | false =>
      simp
      by_cases h : 4 ≤ es.length + ks.length
      · exact h
      · exact absurd ⟨rfl, by omega⟩ hno
  have Hyes := Lib.hid hyes
  cases root with
  | true =>
    clear hno hyes
    go_enter Try.func49, Try.ntmps49
    go_wp2_with fail
    go_loopw [6] (fun vi wr => ∃ i : Nat, i ≤ ks.length ∧ vi = .int .i64 i ∧ Hid (sounds (ks.take i) = true) ∧ Hid (Boxed w pe es.length ce pk ks.length ck wr)) (fun vi _ => ks.length - (intOf vi).toNat)
    case atStart => exact ⟨0, by omega, rfl, by simp [Hid, sounds], Hbx⟩
    case round =>
      obtain ⟨i, hi, rfl, Ha, Hr⟩ := hrel
      obtain ⟨b0, b1⟩ := Hr.out.cells
      by_cases hlt : i < ks.length
      · obtain ⟨k, hk⟩ : ∃ k, ks[i]? = some k := ⟨_, List.getElem?_eq_getElem hlt⟩
        obtain ⟨a, qe, de, qk, dk, rfl, c0, c1, hsk⟩ := Hk.out.cells hk
        have hax := World.block_lt_of_cell? w _ c0
        have c0' := Hr.out.bel.cell (p := a.add (i * 2)) hax
        have c1' := Hr.out.bel.cell (p := ⟨(a.add (i * 2)).block, (a.add (i * 2)).off + 1, none⟩) hax
        rw [c0] at c0'
        rw [c1] at c1'
        have hc := Ih.out k (List.mem_of_getElem? hk) false wr S qe de qk dk (hsk.under Hr.out.bel)
        have Hc := Lib.hid hc
        have HK := Lib.hid hk
        clear c0 c1 hsk hc hk
        cases hb : k.sound false with
        | false =>
          rw [hb] at Hc
          go_wp2_with (go_at_call 49; refine Hc.out.mono ?_; rintro e w1 ⟨rfl, hb1⟩; have Hb1 := Lib.hid hb1; clear hb1)
          go_ret
          refine ⟨?_, (Hr.out.under Hb1.out).bel⟩
          have : sounds ks = false := by
            rw [sounds_all, List.all_eq_false]
            exact ⟨k, List.mem_of_getElem? HK.out, by simp [hb]⟩
          simp [Sh.sound, this]
        | true =>
          rw [hb] at Hc
          go_wp2_with (go_at_call 49; refine Hc.out.mono ?_; rintro e w1 ⟨rfl, hb1⟩; have Hb1 := Lib.hid hb1; clear hb1)
          go_roundw
          case measure => simp [intOf]; omega
          case rel =>
            refine ⟨i + 1, by omega, by go_num, ?_, Hr.out.under Hb1.out⟩
            have h1 := Ha.out
            rw [sounds_all] at h1
            rw [List.take_add_one, HK.out, sounds_all]
            show _ = true
            simp only [List.all_append, h1, Option.toList_some, List.all_cons, hb, List.all_nil, Bool.and_self]
      · obtain rfl : i = ks.length := by omega
        have hall := Ha.out
        rw [List.take_length] at hall
        have Hall := Lib.hid hall
        clear hall
        go_wp2_with fail
        go_ret
        refine ⟨?_, Hr.out.bel⟩
        have h3 := Hall.out
        have h4 := Hyes.out
        simp only [Sh.sound, h3, h4, Bool.and_self]
        rfl
  | false =>
    have h4' : decide ((es.length : Int) + (ks.length : Int) < 4) = false := decide_eq_false (fun h => hno ⟨rfl, by omega⟩)
    clear hno hyes
    go_enter Try.func49, Try.ntmps49
    go_wp2_with fail
    go_loopw [6] (fun vi wr => ∃ i : Nat, i ≤ ks.length ∧ vi = .int .i64 i ∧ Hid (sounds (ks.take i) = true) ∧ Hid (Boxed w pe es.length ce pk ks.length ck wr)) (fun vi _ => ks.length - (intOf vi).toNat)
    case atStart => exact ⟨0, by omega, rfl, by simp [Hid, sounds], Hbx⟩
    case round =>
      obtain ⟨i, hi, rfl, Ha, Hr⟩ := hrel
      obtain ⟨b0, b1⟩ := Hr.out.cells
      by_cases hlt : i < ks.length
      · obtain ⟨k, hk⟩ : ∃ k, ks[i]? = some k := ⟨_, List.getElem?_eq_getElem hlt⟩
        obtain ⟨a, qe, de, qk, dk, rfl, c0, c1, hsk⟩ := Hk.out.cells hk
        have hax := World.block_lt_of_cell? w _ c0
        have c0' := Hr.out.bel.cell (p := a.add (i * 2)) hax
        have c1' := Hr.out.bel.cell (p := ⟨(a.add (i * 2)).block, (a.add (i * 2)).off + 1, none⟩) hax
        rw [c0] at c0'
        rw [c1] at c1'
        have hc := Ih.out k (List.mem_of_getElem? hk) false wr S qe de qk dk (hsk.under Hr.out.bel)
        have Hc := Lib.hid hc
        have HK := Lib.hid hk
        clear c0 c1 hsk hc hk
        cases hb : k.sound false with
        | false =>
          rw [hb] at Hc
          go_wp2_with (go_at_call 49; refine Hc.out.mono ?_; rintro e w1 ⟨rfl, hb1⟩; have Hb1 := Lib.hid hb1; clear hb1)
          go_ret
          refine ⟨?_, (Hr.out.under Hb1.out).bel⟩
          have : sounds ks = false := by
            rw [sounds_all, List.all_eq_false]
            exact ⟨k, List.mem_of_getElem? HK.out, by simp [hb]⟩
          simp [Sh.sound, this]
        | true =>
          rw [hb] at Hc
          go_wp2_with (go_at_call 49; refine Hc.out.mono ?_; rintro e w1 ⟨rfl, hb1⟩; have Hb1 := Lib.hid hb1; clear hb1)
          go_roundw
          case measure => simp [intOf]; omega
          case rel =>
            refine ⟨i + 1, by omega, by go_num, ?_, Hr.out.under Hb1.out⟩
            have h1 := Ha.out
            rw [sounds_all] at h1
            rw [List.take_add_one, HK.out, sounds_all]
            show _ = true
            simp only [List.all_append, h1, Option.toList_some, List.all_cons, hb, List.all_nil, Bool.and_self]
      · obtain rfl : i = ks.length := by omega
        have hall := Ha.out
        rw [List.take_length] at hall
        have Hall := Lib.hid hall
        clear hall
        go_wp2_with fail
        go_ret
        refine ⟨?_, Hr.out.bel⟩
        have h3 := Hall.out
        have h4 := Hyes.out
        simp only [Sh.sound, h3, h4, Bool.and_self]
        rfl
end Go.Proofs.Ytajcmpafbcpicaa
