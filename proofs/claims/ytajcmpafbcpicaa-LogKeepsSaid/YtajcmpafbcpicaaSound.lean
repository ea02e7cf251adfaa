/- A node's Sound, with slices.ContainsFunc and IndexFunc at its kids. Conditions: the node lies in memory; its lists are thin. -/
import Derived.Test.YtajcmpafbcpicaaRisingN
import Derived.Test.YtajcmpafbcpicaaRef2
set_option linter.unusedVariables false
set_option linter.unusedSimpArgs false
namespace Go.Proofs.Ytajcmpafbcpicaa
open Go.RowKit

theorem Nd.ind {p : Nd → Prop} (h : ∀ a es ks, (∀ k ∈ ks, p k) → p (.mk a es ks)) : ∀ n, p n
  | .mk a es ks => h a es ks fun k hk => Nd.ind h k
termination_by n => SizeOf.sizeOf n
decreasing_by
  have := List.sizeOf_lt_of_mem hk
  simp
  omega

def QBool (b : Bool) (w : World) (e : Ending) (w' : World) : Prop := e = .returned (.bool b) ∧ ∃ q, w' = w.drewN q

def allSound (ks : List Nd) : Bool := ks.all fun k => k.sh.sound false
theorem sounds_shs (ks : List Nd) : sounds (shs ks) = allSound ks := by
  rw [sounds_all, shs_map, List.all_map]; rfl

set_option maxHeartbeats 2000000 in
theorem indexf_any (ks : List Nd) (hl : ks.length ≤ 1099511627776) (w : World) (S : Nat → Prop) (p : Option Addr) (c : Nat) (h : PIn w S ks p)
    (hc : ∀ k ∈ ks, ∀ q, Calls Try.prog 109 #[nptr k] (w.drewN q) (QBool (!k.sh.sound false) (w.drewN q))) :
    Calls Try.prog 150 #[.slice p ks.length c, .func (.func 109) #[] #[]] w fun e w' =>
      (∃ i : Int, e = .returned (.int .i64 i) ∧ ((i = -1 ∧ allSound ks = true) ∨ (0 ≤ i ∧ allSound ks = false))) ∧ ∃ q, w' = w.drewN q := by
  have H := Lib.hid h
  have Hc := Lib.hid hc
  clear h hc
  go_enter Try.func150, Try.ntmps150
  go_wp2_with fail
  go_loopw [8] (fun vi wr => ∃ i : Nat, vi = .int .i64 i ∧ i ≤ ks.length ∧ Hid (allSound (ks.take i) = true) ∧ Hid (∃ q, wr = w.drewN q)) (fun vi _ => ks.length - (intOf vi).toNat)
  case atStart => exact ⟨0, rfl, by omega, by simp [Hid, allSound], ⟨0, rfl⟩⟩
  case round =>
    obtain ⟨i, rfl, hi, ha, hq⟩ := hrel
    have H1 : Hid (PIn wr S ks p) := by obtain ⟨q, e⟩ := hq.out; rw [e]; exact H.out.drewN q
    by_cases hlt : i < ks.length
    · obtain ⟨x, hx⟩ : ∃ x, ks[i]? = some x := ⟨_, List.getElem?_eq_getElem (by omega)⟩
      obtain ⟨a, rfl, hSa, hcx⟩ := H1.out i x hx
      have hcl : Calls Try.prog 109 #[nptr x] wr (QBool (!x.sh.sound false) wr) := by
        obtain ⟨q, e⟩ := hq.out
        rw [e]; exact Hc.out x (List.mem_of_getElem? hx) q
      have Hcl := Lib.hid hcl
      have Hx := Lib.hid hx
      clear hcl hx
      cases hb : x.sh.sound false with
      | false =>
        rw [hb] at Hcl
        go_wp2_with (go_at_call 109; refine Hcl.out.mono ?_; rintro e w1 ⟨rfl, q1, rfl⟩)
        go_ret
        refine ⟨⟨i, rfl, .inr ⟨by omega, ?_⟩⟩, by obtain ⟨q, e⟩ := hq.out; exact ⟨_, by rw [e, World.drewN_drewN]⟩⟩
        unfold allSound
        rw [List.all_eq_false]
        exact ⟨x, List.mem_of_getElem? Hx.out, by simp [hb]⟩
      | true =>
        rw [hb] at Hcl
        go_wp2_with (go_at_call 109; refine Hcl.out.mono ?_; rintro e w1 ⟨rfl, q1, rfl⟩)
        go_roundw
        case rel =>
          refine ⟨i + 1, by go_num, by omega, ?_, (by obtain ⟨q, e⟩ := hq.out; exact ⟨_, by rw [e, World.drewN_drewN]⟩)⟩
          have h1 := ha.out
          unfold allSound at h1 ⊢
          rw [List.take_add_one, Hx.out]
          show _ = true
          simp only [List.all_append, h1, Option.toList_some, List.all_cons, hb, List.all_nil, Bool.and_self]
        case measure => simp [intOf]; omega
    · obtain rfl : i = ks.length := by omega
      go_wp2_with fail
      go_ret
      refine ⟨⟨-1, rfl, .inl ⟨rfl, ?_⟩⟩, hq.out⟩
      have := ha.out
      rwa [List.take_length] at this

theorem containsf_any (ks : List Nd) (hl : ks.length ≤ 1099511627776) (w : World) (S : Nat → Prop) (p : Option Addr) (c : Nat) (h : PIn w S ks p)
    (hc : ∀ k ∈ ks, ∀ q, Calls Try.prog 109 #[nptr k] (w.drewN q) (QBool (!k.sh.sound false) (w.drewN q))) :
    Calls Try.prog 110 #[.slice p ks.length c, .func (.func 109) #[] #[]] w (QBool (!allSound ks) w) := by
  have Hc := Lib.hid (indexf_any ks hl w S p c h hc)
  clear h hc
  go_enter Try.func110, Try.ntmps110
  go_wp2_with (go_at_call 150; refine Hc.out.mono ?_; rintro e w1 ⟨⟨i, rfl, hi⟩, q1, rfl⟩)
  go_ret
  refine ⟨?_, _, rfl⟩
  rcases hi with ⟨rfl, h⟩ | ⟨h0, h⟩
  · rw [h]; rfl
  · rw [h]
    have : decide (0 ≤ i) = true := decide_eq_true h0
    simp [this]

set_option maxRecDepth 100000 in
set_option maxHeartbeats 4000000 in
theorem nsound_any (n : Nd) : n.sh.Thin → ∀ (root : Bool) (w : World) (S : Nat → Prop), NIn w S n → Calls Try.prog 41 #[nptr n, .bool root] w (QBool (n.sh.sound root) w) := by
  induction n using Nd.ind with
  | h a es ks ih =>
  intro ht root w S hn
  have hlen : es.length ≤ 1099511627776 ∧ ks.length ≤ 1099511627776 ∧ ∀ k ∈ ks, k.sh.Thin := by
    simp only [Nd.sh] at ht
    cases ht with
    | mk he hk hks =>
      rw [shs_map] at hk hks
      exact ⟨he, by simpa using hk, fun k hk => hks _ (List.mem_map_of_mem hk)⟩
  obtain ⟨hel, hkl, hkt⟩ := hlen
  have hpoor : ∀ k ∈ ks, ∀ q, Calls Try.prog 109 #[nptr k] (w.drewN q) (QBool (!k.sh.sound false) (w.drewN q)) := by
    intro k hk q
    obtain ⟨pe, pk, ce, ck, hSa, h0, h1, h2, h3, hbd, he, hkk, hki⟩ := hn.open_
    obtain ⟨i, hi⟩ := List.mem_iff_getElem?.1 hk
    have hcall := ih k hk (hkt k hk) false (w.drewN q) S ((hki i k hi).drewN q)
    have Hcall := Lib.hid hcall
    clear hcall hSa h0 h1 h2 h3 hbd he hkk hki
    go_enter Try.func109, Try.ntmps109
    go_wp2_with (go_at_call 41; refine Hcall.out.mono ?_; rintro e w1 ⟨rfl, q1, rfl⟩)
    go_ret
    exact ⟨rfl, q1, (World.drewN_drewN ..).symm⟩
  have hN := hn
  obtain ⟨pe, pk, ce, ck, hSa, h0, h1, h2, h3, hbd, he, hkk, hki⟩ := hn.open_
  simp only [Nd.es, Nd.kids] at h0 h1 h2 h3 hkk
  have hcon := fun q => containsf_any ks hkl (w.drewN q) S pk ck (PIn.drewN hkk q) (fun k hk q' => by rw [World.drewN_drewN]; exact hpoor k hk _)
  have hcon0 := containsf_any ks hkl w S pk ck hkk hpoor
  have hsz := size_any w hN hel hkl
  have Hcon := Lib.hid hcon
  have Hcon0 := Lib.hid hcon0
  have Hsz := Lib.hid hsz
  have Hss := Lib.hid (sounds_shs ks)
  clear hcon hcon0 hsz hpoor ih he hki hkt hbd h2 h3 hN hkk ht
  simp only [Nd.es, Nd.kids] at Hsz
  have arm (b : Bool) : (!(!b)) = b := by cases b <;> rfl
  cases root with
  | true =>
    go_enter Try.func41, Try.ntmps41
    go_wp2_with (go_at_call 110; refine Hcon0.out.mono ?_; rintro e w1 ⟨rfl, q1, rfl⟩)
    go_ret
    refine ⟨?_, _, rfl⟩
    simp only [Nd.sh, Sh.sound, Hss.out, Bool.true_or, Bool.true_and]
    cases allSound ks <;> rfl
  | false =>
    by_cases h4 : 4 ≤ es.length + ks.length
    · have h4' : decide ((4 : Int) ≤ (es.length : Int) + (ks.length : Int)) = true := decide_eq_true (by omega)
      have h4'' : decide (4 ≤ es.length + (shs ks).length) = true := decide_eq_true (by rw [shs_map, List.length_map]; exact h4)
      have H4 := Lib.hid h4''
      clear h4''
      go_enter Try.func41, Try.ntmps41
      go_wp2_with (first
        | (go_at_call 46; refine Hsz.out.mono ?_; rintro e w1 ⟨rfl, q1, rfl⟩)
        | (go_at_call 110; refine (Hcon.out q1).mono ?_; rintro e w1 ⟨rfl, q2, rfl⟩))
      go_ret
      refine ⟨?_, q1 + q2, by first | rfl | rw [World.drewN_drewN]⟩
      simp only [Nd.sh, Sh.sound, Hss.out, H4.out, Bool.false_or, Bool.true_and]
      cases allSound ks <;> rfl
    · have h4' : decide ((4 : Int) ≤ (es.length : Int) + (ks.length : Int)) = false := decide_eq_false (by omega)
      have h4'' : decide (4 ≤ es.length + (shs ks).length) = false := decide_eq_false (by rw [shs_map, List.length_map]; exact h4)
      have H4 := Lib.hid h4''
      clear h4''
      go_enter Try.func41, Try.ntmps41
      go_wp2_with (first
        | (go_at_call 46; refine Hsz.out.mono ?_; rintro e w1 ⟨rfl, q1, rfl⟩))
      go_ret
      refine ⟨?_, q1, rfl⟩
      simp only [Nd.sh, Sh.sound, Hss.out, H4.out, Bool.false_or, Bool.false_and]
      rfl
end Go.Proofs.Ytajcmpafbcpicaa
