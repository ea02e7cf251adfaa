/- tree.spot: a key's place in rising entries, and is it there? Condition: the entries lie in memory. -/
import Derived.Test.YtajcmpafbcpicaaKnown
import Derived.Test.YtajcmpafbcpicaaTreeLaws
import Derived.Shelf.Abstract
set_option linter.unusedVariables false
set_option linter.unusedSimpArgs false
namespace Go.Proofs.Ytajcmpafbcpicaa
open Go.RowKit

theorem rank_unique {k : Key} {es : List En} {c : Nat} (hr : rising es = true) (hc : c ≤ es.length) (h1 : ∀ i x, i < c → es[i]? = some x → klt x.1 k = true) (h2 : ∀ i x, c ≤ i → es[i]? = some x → klt x.1 k = false) : rankE k es = c := by
  rcases Nat.lt_trichotomy (rankE k es) c with h | h | h
  · obtain ⟨x, hx⟩ : ∃ x, es[rankE k es]? = some x := ⟨_, List.getElem?_eq_getElem (by omega)⟩
    have := h1 _ x h hx
    rw [rankE_behind hr (Nat.le_refl _) hx] at this
    cases this
  · exact h
  · have hl := rankE_le k es
    obtain ⟨x, hx⟩ : ∃ x, es[c]? = some x := ⟨_, List.getElem?_eq_getElem (by omega)⟩
    have := h2 c x (Nat.le_refl _) hx
    rw [rankE_before h hx] at this
    cases this

theorem rising_iff_lt {es : List En} (h : rising es = true) : ∀ (i j : Nat) (x y : En), i < j → es[i]? = some x → es[j]? = some y → klt x.1 y.1 = true := by
  intro i j x y hij hx hy
  have e : es = es.take j ++ es.drop j := (List.take_append_drop j es).symm
  rw [e] at h
  obtain ⟨_, _, h3⟩ := rising_append.1 h
  refine h3 x (List.mem_of_getElem? (i := i) ?_) y (List.mem_of_getElem? (i := 0) ?_)
  · rw [List.getElem?_take, if_pos hij]; exact hx
  · rw [List.getElem?_drop]; exact hy
theorem spot1_any (x : En) (k : Key) (pl po : Option Addr) (cl co : Nat) (w : World) :
    Calls Try.prog 160 #[.agg #[.string x.1, .int .i64 x.2.kind, .bool x.2.bool, .int .i64 x.2.num, .string x.2.text, .slice pl x.2.list.length cl, .slice po x.2.obj.length co], .string k] w fun e w' => e = .returned (.int .i64 (cmpT x.1 k)) ∧ Below w.heap.size w w' := by
  have hb := bel_new w (.cells #[.string x.1, .int .i64 x.2.kind, .bool x.2.bool, .int .i64 x.2.num, .string x.2.text, .slice pl x.2.list.length cl, .slice po x.2.obj.length co] 44)
  have Hb := Lib.hid hb
  clear hb
  cases h1 : klt x.1 k with
  | true =>
    have hv : cmpT x.1 k = -1 := by simp [cmpT, h1]
    have Hv := Lib.hid hv
    have h1' : Op.bytesLess x.1.toList k.toList = true := h1
    clear hv h1
    go_enter Try.func160, Try.ntmps160
    go_wp2_with fail
    go_ret
    exact ⟨by rw [Hv.out]; rfl, Hb.out⟩
  | false =>
    cases h2 : klt k x.1 with
    | true =>
      have hv : cmpT x.1 k = 1 := by simp [cmpT, h1, h2]
      have Hv := Lib.hid hv
      have h1' : Op.bytesLess x.1.toList k.toList = false := h1
      have h3 : (x.1.toList == k.toList) = false := by
        rw [keq_iff]
        simp only [decide_eq_false_iff_not]
        intro e
        rw [e, klt_irrefl] at h2
        cases h2
      clear hv h1 h2
      go_enter Try.func160, Try.ntmps160
      go_wp2_with fail
      go_ret
      exact ⟨by rw [Hv.out]; rfl, Hb.out⟩
    | false =>
      have hv : cmpT x.1 k = 0 := by simp [cmpT, h1, h2]
      have Hv := Lib.hid hv
      have h1' : Op.bytesLess x.1.toList k.toList = false := h1
      have h3 : (x.1.toList == k.toList) = true := by rw [klt_total h1 h2]; simp
      clear hv h1 h2
      go_enter Try.func160, Try.ntmps160
      go_wp2_with fail
      go_ret
      exact ⟨by rw [Hv.out]; rfl, Hb.out⟩

def SpotPost (k : Key) (es : List En) (w : World) (e : Ending) (w' : World) : Prop := e = .returned (.tuple #[.int .i64 (rankE k es : Nat), .bool (getE k es).isSome]) ∧ Below w.heap.size w w'
theorem cmpT_lt {a b : Key} : decide (cmpT a b < 0) = klt a b := by
  unfold cmpT
  cases h : klt a b with
  | true => simp
  | false => cases h' : klt b a <;> simp
set_option maxHeartbeats 1000000 in
theorem bsearch_any (es : List En) (k : Key) (hl : es.length ≤ 1099511627776) (hr : rising es = true) (w : World) (S : Nat → Prop) (p : Option Addr) (c : Nat) (h : EIn w S es p) :
    Calls Try.prog 159 #[.slice p es.length c, .string k, .func (.func 160) #[] #[]] w (SpotPost k es w) := by
  have H := Lib.hid h
  have Hr := Lib.hid hr
  clear h hr
  go_enter Try.func159, Try.ntmps159
  go_wp2_with fail
  go_loopg [9, 10, 11] es.length (fun kx s9 s10 s11 wr => ∃ lo hi : Nat, s9 = .int .i64 lo ∧ s10 = .int .i64 hi ∧ lo ≤ hi ∧ hi ≤ es.length ∧ hi - lo ≤ kx ∧ Hid (Below w.heap.size w wr) ∧ Hid ((∀ t x, t < lo → es[t]? = some x → klt x.1 k = true) ∧ (∀ t x, hi ≤ t → es[t]? = some x → klt x.1 k = false)))
  case atStart => exact ⟨0, es.length, rfl, rfl, Nat.zero_le _, Nat.le_refl _, by omega, Below.refl _ _, fun t x ht => absurd ht (Nat.not_lt_zero _), fun t x h1 h2 => by rw [List.getElem?_eq_none h1] at h2; cases h2⟩
  case round =>
    obtain ⟨lo, hi, rfl, rfl, hlh, hin, hg, Hb, I⟩ := hrel
    by_cases hlt : lo < hi
    · obtain ⟨x, hx⟩ : ∃ x, es[(lo + hi) / 2]? = some x := ⟨_, List.getElem?_eq_getElem (by omega)⟩
      obtain ⟨a, ql, dl, qo, do_, rfl, hSa, hcx, _⟩ := H.out _ _ hx
      have hcx' : Cells wr (a.add ((lo + hi) / 2 * 7)) (ecells x.1 x.2 ql dl qo do_) := hcx.keep (S := S) (fun b _ hl => Hb.out.block b hl) (by rw [block_add]; exact hSa)
      obtain ⟨e0, e1, e2, e3, e4, e5, e6⟩ := hcx'.at7
      have Hx := Lib.hid hx
      have hm0 : (0 : Int) ≤ ((lo : Int) + (hi : Int)) / 2 := by omega
      have hm1 : ((lo : Int) + (hi : Int)) / 2 < (es.length : Int) := by omega
      have hm2 : (((lo : Int) + (hi : Int)) / 2).toNat = (lo + hi) / 2 := by omega
      have Hcall := Lib.hid (spot1_any x k ql qo dl do_ wr)
      clear hcx hcx' hx
      cases hp : klt x.1 k with
      | true =>
        have hd : decide (cmpT x.1 k < 0) = true := by rw [cmpT_lt]; exact hp
        have HP := Lib.hid hp
        clear hp
        go_wp2_with (go_at_call 160; refine Hcall.out.mono ?_; rintro e w1 ⟨rfl, hb1⟩; have Hb1 := Lib.hid hb1; clear hb1)
        go_roundg (hi - ((lo + hi) / 2 + 1))
        case measure => omega
        case rel =>
          refine ⟨(lo + hi) / 2 + 1, hi, by go_num, rfl, by omega, hin, by omega, bel_tr Hb.out Hb1.out, fun t y ht hy => ?_, I.out.2⟩
          rcases Nat.eq_or_lt_of_le (Nat.le_of_lt_succ ht) with e | e
          · subst e; rw [Hx.out] at hy; injection hy with hy; subst hy; exact HP.out
          · have h2 := (rising_iff_lt Hr.out) t ((lo + hi) / 2) y x e hy Hx.out
            exact klt_trans h2 HP.out
      | false =>
        have hd : decide (cmpT x.1 k < 0) = false := by rw [cmpT_lt]; exact hp
        have HP := Lib.hid hp
        clear hp
        go_wp2_with (go_at_call 160; refine Hcall.out.mono ?_; rintro e w1 ⟨rfl, hb1⟩; have Hb1 := Lib.hid hb1; clear hb1)
        go_roundg ((lo + hi) / 2 - lo)
        case measure => omega
        case rel =>
          refine ⟨lo, (lo + hi) / 2, rfl, by first | rfl | go_num, by omega, by omega, by omega, bel_tr Hb.out Hb1.out, I.out.1, fun t y h1 hy => ?_⟩
          rcases Nat.eq_or_lt_of_le h1 with e | e
          · subst e; rw [Hx.out] at hy; injection hy with hy; subst hy; exact HP.out
          · have h2 := (rising_iff_lt Hr.out) ((lo + hi) / 2) t x y e Hx.out hy
            cases hk : klt y.1 k with
            | false => rfl
            | true => have := klt_trans h2 hk; rw [HP.out] at this; cases this
    · obtain rfl : lo = hi := by omega
      have hrank := rank_unique Hr.out hin I.out.1 I.out.2
      have Hrank := Lib.hid hrank
      have hge : (getE k es).isSome = (match es[lo]? with | some x => !klt k x.1 | none => false) := by rw [← hrank]; exact getE_iff
      have Hge := Lib.hid hge
      clear hrank hge
      by_cases h1 : lo < es.length
      · obtain ⟨x, hx⟩ : ∃ x, es[lo]? = some x := ⟨_, List.getElem?_eq_getElem h1⟩
        obtain ⟨a, ql, dl, qo, do_, rfl, hSa, hcx, _⟩ := H.out _ _ hx
        have hcx' : Cells wr (a.add (lo * 7)) (ecells x.1 x.2 ql dl qo do_) := hcx.keep (S := S) (fun b _ hl => Hb.out.block b hl) (by rw [block_add]; exact hSa)
        obtain ⟨e0, e1, e2, e3, e4, e5, e6⟩ := hcx'.at7
        have hp := I.out.2 lo x (Nat.le_refl _) hx
        have hv : (cmpT x.1 k == 0) = (getE k es).isSome := by
          rw [Hge.out, hx]
          simp only
          unfold cmpT
          rw [hp]
          cases klt k x.1 <;> rfl
        have Hv := Lib.hid hv
        have hm0 : (0 : Int) ≤ (lo : Int) := by omega
        have hm1 : (lo : Int) < (es.length : Int) := by omega
        have Hcall := Lib.hid (spot1_any x k ql qo dl do_ wr)
        clear hcx hcx' hx hp hv
        go_wp2_with (go_at_call 160; refine Hcall.out.mono ?_; rintro e w1 ⟨rfl, hb1⟩; have Hb1 := Lib.hid hb1; clear hb1)
        go_ret2
        exact ⟨by rw [Hrank.out, ← Hv.out]; rfl, bel_tr Hb.out Hb1.out⟩
      · have hd : decide (lo < es.length) = false := decide_eq_false h1
        have hv : (getE k es).isSome = false := by rw [Hge.out, List.getElem?_eq_none (by omega)]
        have Hv := Lib.hid hv
        clear hv
        go_wp2_with fail
        go_ret2
        exact ⟨by rw [Hrank.out, Hv.out]; rfl, Hb.out⟩
theorem spot_any (es : List En) (k : Key) (hl : es.length ≤ 1099511627776) (hr : rising es = true) (w : World) (S : Nat → Prop) (p : Option Addr) (c : Nat) (h : EIn w S es p) :
    Calls Try.prog 115 #[.slice p es.length c, .string k] w (SpotPost k es w) := by
  have Hc := Lib.hid (bsearch_any es k hl hr w S p c h)
  clear h hr
  go_enter Try.func115, Try.ntmps115
  go_wp2_with (go_at_call 159; refine Hc.out.mono ?_; rintro e w1 ⟨rfl, hb1⟩; have Hb1 := Lib.hid hb1; clear hb1)
  go_ret2
  exact ⟨rfl, Hb1.out⟩
end Go.Proofs.Ytajcmpafbcpicaa
