/- tree.made: one node over parts, or two, if there are too many. Conditions: the parts lie in memory and may stand so. -/
import Derived.Test.YtajcmpafbcpicaaTree1
import Derived.Test.YtajcmpafbcpicaaNode4
set_option linter.unusedVariables false
set_option linter.unusedSimpArgs false
namespace Go.Proofs.Ytajcmpafbcpicaa
open Go.RowKit

/-- Nodes in a row of the call's own. -/
def NodesPost (S : Nat → Prop) (P : List Nd → Prop) (w : World) (e : Ending) (w' : World) : Prop :=
  ∃ ms p c, e = .returned (.slice p ms.length c) ∧ P ms ∧ w'.ownsRow w.heap.size 30 1 (.slice p ms.length c) ms.length (ms.map nptr) ∧ (∀ m ∈ ms, NIn w' (fun b => S b ∨ w.heap.size ≤ b) m) ∧ Below w.heap.size w w'

theorem row_one (w : World) (n : Nd) (B : Nat) (hB : B ≤ w.heap.size) : (w.alloc (.cells #[nptr n] 30)).ownsRow B 30 1 (.slice (some ⟨w.heap.size, 0, none⟩) 1 1) 1 [nptr n] :=
  ⟨rfl, .inr ⟨w.heap.size, 1, #[nptr n], rfl, hB, heap_alloc_new w _, Nat.le_refl _, by decide, rfl, rfl⟩⟩
theorem row_two (w : World) (n m : Nd) (B : Nat) (hB : B ≤ w.heap.size) : (w.alloc (.cells #[nptr n, nptr m] 30)).ownsRow B 30 1 (.slice (some ⟨w.heap.size, 0, none⟩) 2 2) 2 [nptr n, nptr m] :=
  ⟨rfl, .inr ⟨w.heap.size, 2, #[nptr n, nptr m], rfl, hB, heap_alloc_new w _, Nat.le_refl _, by decide, rfl, rfl⟩⟩

def MadeE (B : Nat) (es : List En) (ms : List Nd) : Prop :=
  (es.length ≤ 8 ∧ ∃ a, ms = [.mk a es []] ∧ B ≤ a) ∨ (8 < es.length ∧ ∃ a b, ms = [.mk a (es.take 4) [], .mk b (es.drop 4) []] ∧ B ≤ a ∧ B ≤ b)

theorem madeE_one (es : List En) (h8 : es.length ≤ 8) (hr : rising es = true) (hf : ∀ e ∈ es, e.2.Fits) (w : World) (S : Nat → Prop) (p : Option Addr) (c : Nat) (h : EIn w S es p) :
    Calls Try.prog 154 #[.slice p es.length c, .func (.func 155) #[] #[]] w (NodesPost (fun _ => False) (MadeE w.heap.size es) w) := by
  have Hc := Lib.hid (tleaf_any es h8 hr hf w S p c h)
  clear h hf hr
  have hd : decide ((es.length : Int) ≤ 8) = true := decide_eq_true (by omega)
  go_enter Try.func154, Try.ntmps154
  go_wp2_with (go_at_call 155; refine Hc.out.mono ?_; rintro e w1 ⟨a, rfl, ha, hn, hb⟩; have Hn := Lib.hid hn; have Hb := Lib.hid hb; clear hn hb)
  go_ret
  refine ⟨[.mk a es []], _, _, rfl, .inl ⟨h8, a, rfl, ha⟩, row_one w1 (.mk a es []) _ Hb.out.size, fun m hm => ?_, bel_al Hb.out _⟩
  simp at hm
  subst hm
  exact (Hn.out.under (bel_new _ _)).more fun b hb _ => .inr hb

set_option maxHeartbeats 1000000 in
theorem madeE_two (es : List En) (h9 : 8 < es.length) (h12 : es.length ≤ 12) (hr : rising es = true) (hf : ∀ e ∈ es, e.2.Fits) (w : World) (S : Nat → Prop) (g : Nat) (c : Nat) (hc : es.length ≤ c) (h : EIn w S es (some ⟨g, 0, none⟩)) :
    Calls Try.prog 154 #[.slice (some ⟨g, 0, none⟩) es.length c, .func (.func 155) #[] #[]] w (NodesPost (fun _ => False) (MadeE w.heap.size es) w) := by
  have hsp : rising (es.take 4) = true ∧ rising (es.drop 4) = true := by
    have e : es = es.take 4 ++ es.drop 4 := (List.take_append_drop 4 es).symm
    rw [e] at hr
    obtain ⟨h1, h2, _⟩ := rising_append.1 hr
    exact ⟨h1, h2⟩
  have hp1 : EIn w S (es.take 4) (some ⟨g, 0, none⟩) := by
    have := h.part 0 4
    simpa [Addr.add] using this
  have hp2 : EIn w S (es.drop 4) (some ⟨g, 28, none⟩) := by
    have := h.part 4 (es.length - 4)
    rw [add_lit, List.take_of_length_le (by simp)] at this
    simpa using this
  have hl1 : (es.take 4).length = 4 := by simp; omega
  have hl2 : (es.drop 4).length = es.length - 4 := by simp
  have hc1 := tleaf_any (es.take 4) (by omega) hsp.1 (fun e he => hf e (List.mem_of_mem_take he)) w.drew S _ c (hp1.drew)
  have hc2 := fun (W : World) (hW : Below w.heap.size w W) => tleaf_any (es.drop 4) (by omega) hsp.2 (fun e he => hf e (List.mem_of_mem_drop he)) W S _ (c - 4) (hp2.under hW)
  rw [hl1] at hc1
  rw [hl2] at hc2
  have Hc1 := Lib.hid hc1
  have Hc2 := Lib.hid hc2
  clear h hf hr hp1 hp2 hl1 hl2 hc1 hc2 hsp
  have hd : decide ((es.length : Int) ≤ 8) = false := decide_eq_false (by omega)
  have hd1 : 4 ≤ c := by omega
  have hd2 : 4 ≤ es.length := by omega
  have hd3 : ¬ c = 4 := by omega
  go_enter Try.func154, Try.ntmps154
  go_wp2_with fail
  go_region_with (first
    | (go_at_call_of 155 (Value.slice (some ⟨g, 0, none⟩) 4 c); refine Hc1.out.mono ?_; rintro e w1 ⟨a, rfl, ha, hn, hb⟩; have Hn1 := Lib.hid hn; have Hb1 := Lib.hid (below_of_drew hb); have Ha1 := Lib.hid ha; clear hn hb ha)
    | (go_at_call 155; refine (Hc2.out w1 Hb1.out).mono ?_; rintro e w2 ⟨a2, rfl, ha, hn, hb⟩; have Hn2 := Lib.hid hn; have Hb2 := Lib.hid hb; have Ha2 := Lib.hid ha; clear hn hb ha))
  all_goals go_wp2_with fail
  all_goals go_ret
  all_goals
    have hs1 := Hb1.out.size
    have hs2 := Hb2.out.size
    refine ⟨[.mk a (es.take 4) [], .mk a2 (es.drop 4) []], _, _, rfl, .inr ⟨h9, a, a2, rfl, Ha1.out, Nat.le_trans hs1 Ha2.out⟩, row_two w2 _ _ _ (by omega), fun m hm => ?_, bel_al (bel_tr Hb1.out Hb2.out) _⟩
    simp at hm
    rcases hm with rfl | rfl
    · exact ((Hn1.out.under Hb2.out).under (bel_new _ _)).more fun b hb _ => .inr hb
    · exact (Hn2.out.under (bel_new _ _)).more fun b hb _ => .inr (Nat.le_trans hs1 hb)

def Grp (B : Nat) (ks : List Nd) (n : Nd) : Prop := ks = [n] ∨ (together ks ∧ ∃ a, n = .mk a [] ks ∧ B ≤ a)
def MadeN (B : Nat) (ks : List Nd) (ms : List Nd) : Prop :=
  (ks.length ≤ 8 ∧ ∃ n, ms = [n] ∧ Grp B ks n) ∨ (8 < ks.length ∧ ∃ n m, ms = [n, m] ∧ Grp B (ks.take 4) n ∧ Grp B (ks.drop 4) m)
theorem Grp.mono {B B' : Nat} {ks : List Nd} {n : Nd} (h : Grp B ks n) (hb : B' ≤ B) : Grp B' ks n := by
  rcases h with h | ⟨h1, a, h2, h3⟩
  · exact .inl h
  · exact .inr ⟨h1, a, h2, by omega⟩
theorem PIn.part {w : World} {S : Nat → Prop} {ks : List Nd} {g o : Nat} (h : PIn w S ks (some ⟨g, o, none⟩)) (i m : Nat) : PIn w S ((ks.drop i).take m) (some ⟨g, o + i, none⟩) := by
  intro j k hj
  have hm : j < m := by
    rcases Nat.lt_or_ge j m with h1 | h1
    · exact h1
    · rw [List.getElem?_take, if_neg (by omega)] at hj; cases hj
  rw [List.getElem?_take, if_pos hm, List.getElem?_drop] at hj
  obtain ⟨ad, e, h1, h2⟩ := h _ _ hj
  injection e with e
  subst e
  refine ⟨_, rfl, h1, ?_⟩
  rw [add_lit] at h2 ⊢
  rwa [show o + i + j = o + (i + j) by omega]

theorem madeN_one {S Sp : Nat → Prop} (ks : List Nd) (w : World) (p : Option Addr) (c : Nat) (h8 : ks.length ≤ 8) (hp : PIn w Sp ks p) (hn : ∀ k ∈ ks, NIn w S k ∧ k.ok) (hc : cnts ks ≤ 1099511627776) (hh : ∀ k ∈ ks, k.hgt < 1099511627776) (h1 : ks.length = 1 ∨ together ks) :
    Calls Try.prog 156 #[.slice p ks.length c, .func (.func 112) #[] #[]] w (NodesPost S (MadeN w.heap.size ks) w) := by
  have Hc := Lib.hid (tinner_any ks w p c hp hn hc hh h1)
  clear hp hn hc hh h1
  have hd : decide ((ks.length : Int) ≤ 8) = true := decide_eq_true (by omega)
  go_enter Try.func156, Try.ntmps156
  go_wp2_with (go_at_call 112; refine Hc.out.mono ?_; rintro e w1 ⟨n, rfl, hg, hn, hb⟩; have Hn := Lib.hid hn; have Hb := Lib.hid hb; have Hg := Lib.hid hg; clear hn hb hg)
  go_ret
  refine ⟨[n], _, _, rfl, .inl ⟨h8, n, rfl, Hg.out⟩, row_one w1 n _ Hb.out.size, fun m hm => ?_, bel_al Hb.out _⟩
  simp at hm
  subst hm
  exact Hn.out.under (bel_new _ _)

set_option maxHeartbeats 1000000 in
theorem madeN_two {S Sp : Nat → Prop} (ks : List Nd) (w : World) (g : Nat) (c : Nat) (h9 : 8 < ks.length) (hcap : ks.length ≤ c) (hp : PIn w Sp ks (some ⟨g, 0, none⟩)) (hn : ∀ k ∈ ks, NIn w S k ∧ k.ok) (hc : cnts ks ≤ 1099511627776) (hh : ∀ k ∈ ks, k.hgt < 1099511627776) (ht1 : together (ks.take 4)) (ht2 : together (ks.drop 4)) (hl : ks.length ≤ 1000) :
    Calls Try.prog 156 #[.slice (some ⟨g, 0, none⟩) ks.length c, .func (.func 112) #[] #[]] w (NodesPost S (MadeN w.heap.size ks) w) := by
  have hp1 : PIn w Sp (ks.take 4) (some ⟨g, 0, none⟩) := by simpa using hp.part 0 4
  have hp2 : PIn w Sp (ks.drop 4) (some ⟨g, 4, none⟩) := by
    have := hp.part 4 (ks.length - 4)
    rw [List.take_of_length_le (by simp)] at this
    simpa using this
  have hl1 : (ks.take 4).length = 4 := by simp; omega
  have hl2 : (ks.drop 4).length = ks.length - 4 := by simp
  have hcc1 : cnts (ks.take 4) ≤ 1099511627776 := Nat.le_trans (cnts_le ks 4) hc
  have hcc2 : cnts (ks.drop 4) ≤ 1099511627776 := by
    have e : flats (shs ks) = flats (shs (ks.take 4)) ++ flats (shs (ks.drop 4)) := by
      rw [← flats_append, shs_map, shs_map, shs_map, ← List.map_append, List.take_append_drop]
    unfold cnts at hc ⊢
    rw [e, List.length_append] at hc
    omega
  have hc1 := tinner_any (S := S) (ks.take 4) w.drew _ c (hp1.under ((Below.refl _ w).drew)) (fun k hk => ⟨(hn k (List.mem_of_mem_take hk)).1.drew, (hn k (List.mem_of_mem_take hk)).2⟩) hcc1 (fun k hk => hh k (List.mem_of_mem_take hk)) (.inr ht1)
  have hc2 := fun (W : World) (hW : Below w.heap.size w W) => tinner_any (S := S) (ks.drop 4) W _ (c - 4) (hp2.under hW) (fun k hk => ⟨(hn k (List.mem_of_mem_drop hk)).1.under hW, (hn k (List.mem_of_mem_drop hk)).2⟩) hcc2 (fun k hk => hh k (List.mem_of_mem_drop hk)) (.inr ht2)
  rw [hl1] at hc1
  rw [hl2] at hc2
  have Hc1 := Lib.hid hc1
  have Hc2 := Lib.hid hc2
  clear hp hn hc hh ht1 ht2 hp1 hp2 hl1 hl2 hcc1 hcc2 hc1 hc2
  have hd : decide ((ks.length : Int) ≤ 8) = false := decide_eq_false (by omega)
  have hd1 : 4 ≤ c := by omega
  have hd2 : 4 ≤ ks.length := by omega
  have hd3 : ¬ c = 4 := by omega
  go_enter Try.func156, Try.ntmps156
  go_wp2_with fail
  go_region_with (first
    | (go_at_call_of 112 (Value.slice (some ⟨g, 0, none⟩) 4 c); refine Hc1.out.mono ?_; rintro e w1 ⟨n1, rfl, hg, hn, hb⟩; have Hn1 := Lib.hid hn; have Hb1 := Lib.hid (below_of_drew hb); have Hg1 := Lib.hid hg; clear hn hb hg)
    | (go_at_call 112; refine (Hc2.out w1 Hb1.out).mono ?_; rintro e w2 ⟨n2, rfl, hg, hn, hb⟩; have Hn2 := Lib.hid hn; have Hb2 := Lib.hid hb; have Hg2 := Lib.hid hg; clear hn hb hg))
  all_goals go_wp2_with fail
  all_goals go_ret
  all_goals
    have hs1 := Hb1.out.size
    have hs2 := Hb2.out.size
    refine ⟨[n1, n2], _, _, rfl, .inr ⟨h9, n1, n2, rfl, Hg1.out, Grp.mono (B := w1.heap.size) Hg2.out hs1⟩, row_two w2 _ _ _ (by omega), fun m hm => ?_, bel_al (bel_tr Hb1.out Hb2.out) _⟩
    simp at hm
    rcases hm with rfl | rfl
    · exact (Hn1.out.under Hb2.out).under (bel_new _ _)
    · exact (Hn2.out.under (bel_new _ _)).more fun b hb _ => hb.imp id fun h => Nat.le_trans hs1 h
end Go.Proofs.Ytajcmpafbcpicaa
