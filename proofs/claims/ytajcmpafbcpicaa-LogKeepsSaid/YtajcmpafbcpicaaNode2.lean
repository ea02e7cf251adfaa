/- node.Leaf, and Entries, Entry, Kids of a node. Condition: what they read lies in memory, and is not longer than that bears. -/
import Derived.Test.YtajcmpafbcpicaaOwn
import Derived.Test.YtajcmpafbcpicaaRising
import Derived.Test.YtajcmpafbcpicaaNode1
set_option linter.unusedVariables false
set_option linter.unusedSimpArgs false
namespace Go.Proofs.Ytajcmpafbcpicaa
open Go.RowKit

def LeafPost (es : List En) (w : World) (e : Ending) (w' : World) : Prop :=
  Below w.heap.size w w' ∧ ((es.length ≤ 8 ∧ rising es = true ∧ ∃ a, e = .returned (.tuple #[nptr (.mk a es []), .int .i64 0]) ∧ w.heap.size ≤ a ∧ NIn w' (fun b => w.heap.size ≤ b) (.mk a es [])) ∨
    (¬ (es.length ≤ 8 ∧ rising es = true) ∧ e = .returned (.tuple #[.pointer none, .int .i64 2])))

set_option maxRecDepth 100000 in
set_option maxHeartbeats 4000000 in
theorem leaf_any (es : List En) (hf : ∀ e ∈ es, e.2.Fits) (hl : es.length * 104 ≤ 140737488355328) (w : World) (S : Nat → Prop) (p : Option Addr) (c : Nat) (h : EIn w S es p) :
    Calls Try.prog 35 #[.slice p es.length c] w (LeafPost es w) := by
  by_cases h8 : es.length ≤ 8
  · have hc := risingE_any es hl
    have Hc := Lib.hid (hc w S p c h)
    have Ho := Lib.hid (own_any es hf hl)
    have H := Lib.hid h
    clear hc h hf
    cases hr : rising es with
    | false =>
      go_enter Try.func35, Try.ntmps35
      go_wp2_with (go_at_call 106; refine Hc.out.mono ?_; rintro e w1 ⟨rfl, hb1⟩)
      go_ret2
      exact ⟨hb1, .inr ⟨fun q => (by have q2 := q.2; rw [hr] at q2; cases q2), rfl⟩⟩
    | true =>
      go_enter Try.func35, Try.ntmps35
      go_wp2_with (first
        | (go_at_call 106; refine Hc.out.mono ?_; rintro e w1 ⟨rfl, hb1⟩)
        | (go_at_call 108; refine (Ho.out w1 S p c (H.out.under hb1)).mono ?_; rintro e w2 ⟨p2, c2, rfl, ho2, hb2⟩))
      go_ret2
      have hb := below_then hb1 hb1.size hb2
      have hs1 := hb1.size
      have hs2 := hb2.size
      refine ⟨hb.alloc (by omega) _, .inl ⟨h8, hr, w2.heap.size, rfl, by omega, ?_⟩⟩
      have hu := (Below.refl w2.heap.size w2).alloc (Nat.le_refl _) (.cells #[.slice p2 es.length c2, .slice none 0 0, .int .i64 (es.length : Nat), .int .i64 0] 160)
      refine NIn.mk p2 none c2 0 (by omega) ?_ ⟨by simp [Nd.cnt, Nd.sh, shs, Sh.flat]; omega, by simp [Nd.hgt, Nd.sh, shs, Sh.height]⟩ ⟨ho2.cap_, Nat.le_refl _⟩
        (((ho2.under hu).ein (fun b hb _ => hb) (fun b hb _ => hb)).more fun b hb _ => by omega) (fun i k hk => by simp at hk) (fun i k hk => by simp at hk)
      have hbk := (Blk.new w2 160 #[.slice p2 es.length c2, .slice none 0 0, .int .i64 (es.length : Nat), .int .i64 0]).cells
      have e1 : (Nd.mk w2.heap.size es []).cnt = es.length := by simp [Nd.cnt, Nd.sh, shs, Sh.flat]
      have e2 : (Nd.mk w2.heap.size es []).hgt = 0 := by simp [Nd.hgt, Nd.sh, shs, Sh.height]
      rw [e1, e2]
      exact hbk
  · have h9 : 8 < es.length := by omega
    go_enter Try.func35, Try.ntmps35
    go_wp2_with fail
    go_ret2
    exact ⟨Below.refl _ _, .inr ⟨fun q => h8 q.1, rfl⟩⟩

theorem entries_any {S : Nat → Prop} {n : Nd} (w : World) (h : NIn w S n) (hf : n.Fits) : Calls Try.prog 36 #[nptr n] w (OwnPost n.es w) := by
  obtain ⟨pe, pk, ce, ck, _, h0, h1, h2, h3, _, he, _⟩ := h.open_
  have Ho := Lib.hid (own_any n.es hf.ents.2 hf.ents.1 w S pe ce he)
  clear he
  go_enter Try.func36, Try.ntmps36
  go_wp2_with (go_at_call 108; refine Ho.out.mono ?_; rintro e w1 ⟨p1, c1, rfl, ho1, hb1⟩)
  go_ret
  exact ⟨p1, c1, rfl, ho1, hb1⟩
theorem entries_nil (w : World) : Calls Try.prog 36 #[.pointer none] w fun e w' => e = .returned (.slice none 0 0) ∧ w = w' := by
  go_enter Try.func36, Try.ntmps36
  go_wp2_with fail
  go_ret
  exact ⟨rfl, rfl⟩

def KidsPost (n : Nd) (w : World) (e : Ending) (w' : World) : Prop :=
  ∃ p c, e = .returned (.slice p n.kids.length c) ∧ w'.ownsRow w.heap.size 30 1 (.slice p n.kids.length c) n.kids.length (n.kids.map nptr) ∧ Below w.heap.size w w'
theorem kids_any {S : Nat → Prop} {n : Nd} (w : World) (h : NIn w S n) (hl : n.kids.length * 8 ≤ 140737488355328) : Calls Try.prog 34 #[nptr n] w (KidsPost n w) := by
  obtain ⟨pe, pk, ce, ck, _, h0, h1, h2, h3, _, he, hk, _⟩ := h.open_
  have hcl := clonen_any pk n.kids.length ck (n.kids.map nptr) w (by simp) (fun e => by
      subst e
      cases hks : n.kids with
      | nil => rfl
      | cons k l => obtain ⟨ad, q, _⟩ := hk 0 k (by rw [hks]; rfl); cases q)
    (fun ad e j u hu => by
      subst e
      rw [List.getElem?_map] at hu
      cases hj : n.kids[j]? with
      | none => rw [hj] at hu; cases hu
      | some k =>
        rw [hj] at hu
        injection hu with hu
        subst hu
        obtain ⟨ad', q, _, hc⟩ := hk j k hj
        injection q with q
        subst q
        exact hc)
    (fun u hu => by obtain ⟨k, _, rfl⟩ := List.mem_map.1 hu; rfl) hl
  have Hcl := Lib.hid hcl
  clear hcl hk he
  go_enter Try.func34, Try.ntmps34
  go_wp2_with (go_at_call 103; refine Hcl.out.mono ?_; rintro e w1 ⟨v, rfl, ho1, hb1⟩)
  go_ret
  obtain ⟨p, c, rfl⟩ := own_slice ho1
  exact ⟨p, c, rfl, ho1, hb1⟩
theorem kids_nil (w : World) : Calls Try.prog 34 #[.pointer none] w fun e w' => e = .returned (.slice none 0 0) ∧ w = w' := by
  go_enter Try.func34, Try.ntmps34
  go_wp2_with fail
  go_ret
  exact ⟨rfl, rfl⟩
end Go.Proofs.Ytajcmpafbcpicaa
