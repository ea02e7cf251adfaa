/- node.rising of nodes: does each one end ahead of where the next one begins? Condition: the nodes lie in memory, and are some that may be. -/
import Derived.Test.YtajcmpafbcpicaaNode1
import Derived.Test.YtajcmpafbcpicaaRising
set_option linter.unusedVariables false
set_option linter.unusedSimpArgs false
namespace Go.Proofs.Ytajcmpafbcpicaa
open Go.RowKit

/-- A list of pointers to nodes lies from p on; and the nodes themselves. -/
def PIn (w : World) (S : Nat → Prop) (l : List Nd) (p : Option Addr) : Prop := ∀ i k, l[i]? = some k → ∃ ad, p = some ad ∧ S ad.block ∧ w.cell? (ad.add i) = some (nptr k)
theorem PIn.keep {w w' : World} {S S' : Nat → Prop} {l : List Nd} {p : Option Addr} (h : PIn w S l p) (hA : ∀ b, S b → b < w.heap.size → S' b ∧ w'.heap[b]? = w.heap[b]?) : PIn w' S' l p := by
  intro i k hi
  obtain ⟨ad, h1, h2, h3⟩ := h i k hi
  have hl := World.block_lt_of_cell? w _ h3
  rw [block_add] at hl
  exact ⟨ad, h1, (hA _ h2 hl).1, Agree.cell (S := S) (fun b hb hl => (hA b hb hl).2) (by rw [block_add]; exact h2) h3⟩
theorem PIn.under {w w' : World} {S : Nat → Prop} {l : List Nd} {p : Option Addr} (h : PIn w S l p) (hb : Below w.heap.size w w') : PIn w' S l p := h.keep fun b hS hl => ⟨hS, hb.block b hl⟩
theorem PIn.drewN {w : World} {S : Nat → Prop} {l : List Nd} {p : Option Addr} (h : PIn w S l p) (q : Nat) : PIn (w.drewN q) S l p := h.keep fun b hS hl => ⟨hS, rfl⟩
theorem PIn.drew {w : World} {S : Nat → Prop} {l : List Nd} {p : Option Addr} (h : PIn w S l p) : PIn w.drew S l p := h.keep fun b hS hl => ⟨hS, rfl⟩
theorem PIn.more {w : World} {S S' : Nat → Prop} {l : List Nd} {p : Option Addr} (h : PIn w S l p) (hs : ∀ b, S b → b < w.heap.size → S' b) : PIn w S' l p := h.keep fun b hS hl => ⟨hs b hS hl, rfl⟩

def ahead (x y : Nd) : Bool := klt (lastKey x.sh.flat) (firstKey y.sh.flat)
def risingN : List Nd → Bool
  | x :: y :: l => ahead x y && risingN (y :: l)
  | _ => true
theorem risingN_iff : ∀ (l : List Nd), risingN l = true ↔ ∀ i x y, l[i]? = some x → l[i + 1]? = some y → ahead x y = true
  | [] => by simp [risingN]
  | [x] => by simp [risingN]
  | x :: y :: l => by
    simp only [risingN, Bool.and_eq_true]
    rw [risingN_iff (y :: l)]
    constructor
    · rintro ⟨h1, h2⟩ i u v hu hv
      match i with
      | 0 => simp at hu hv; subst hu; subst hv; exact h1
      | i + 1 => exact h2 i u v (by simpa using hu) (by simpa using hv)
    · intro h
      exact ⟨h 0 x y rfl rfl, fun i u v hu hv => h (i + 1) u v (by simpa using hu) (by simpa using hv)⟩
theorem risingN_take (es : List Nd) (i : Nat) {x y : Nd} (hx : es[i]? = some x) (hy : es[i + 1]? = some y) (h : risingN (es.take (i + 1)) = true) :
    risingN (es.take (i + 2)) = ahead x y := by
  cases hk : ahead x y with
  | true =>
    rw [risingN_iff] at h ⊢
    intro j u v hu hv
    replace hu := (take_some hu).2
    obtain ⟨hj, hv'⟩ := take_some hv
    replace hv := hv'
    by_cases e : j = i
    · subst e
      rw [hx] at hu; rw [hy] at hv
      injection hu with hu; injection hv with hv
      subst hu; subst hv
      exact hk
    · exact h j u v (by rw [List.getElem?_take, if_pos (by omega)]; exact hu) (by rw [List.getElem?_take, if_pos (by omega)]; exact hv)
  | false =>
    cases hr : risingN (es.take (i + 2)) with
    | false => rfl
    | true =>
      have := (risingN_iff _).1 hr i x y (by rw [List.getElem?_take, if_pos (by omega)]; exact hx) (by rw [List.getElem?_take, if_pos (by omega)]; exact hy)
      rw [hk] at this
      cases this
theorem risingN_part {es : List Nd} {i : Nat} (h : risingN (es.take i) = false) : risingN es = false := by
  cases hr : risingN es with
  | false => rfl
  | true =>
    rw [risingN_iff] at hr
    have : risingN (es.take i) = true := by
      rw [risingN_iff]
      intro j u v hu hv
      exact hr j u v (take_some hu).2 (take_some hv).2
    rw [h] at this
    cases this

theorem inner1_any {S : Nat → Prop} {a b : Nd} (w : World) (ha : NIn w S a) (hb : NIn w S b) (oa : a.ok) (ob : b.ok) :
    Calls Try.prog 105 #[nptr a, nptr b] w fun e w' => e = .returned (.bool (ahead a b)) ∧ ∃ q, w' = w.drewN q := by
  have Ha := Lib.hid ha
  have Hb := Lib.hid hb
  clear ha hb
  go_enter Try.func105, Try.ntmps105
  go_wp2_with (first
    | (go_at_call 48; refine (last_any w Ha.out oa).mono ?_; rintro e w1 ⟨rfl, q1, rfl⟩)
    | (go_at_call 47; refine (first_any (w.drewN q1) (Hb.out.drewN q1) ob).mono ?_; rintro e w2 ⟨rfl, rfl⟩))
  go_ret
  exact ⟨rfl, _, rfl⟩

set_option maxRecDepth 100000 in
set_option maxHeartbeats 4000000 in
theorem risingN_any (es : List Nd) (hl : es.length ≤ 1099511627776) (w : World) (S : Nat → Prop) (p : Option Addr) (c : Nat) (h : PIn w S es p) (hn : ∀ k ∈ es, NIn w S k ∧ k.ok) :
    Calls Try.prog 104 #[.slice p es.length c, .func (.func 105) #[] #[]] w fun e w' => e = .returned (.bool (risingN es)) ∧ ∃ q, w' = w.drewN q := by
  have H := Lib.hid h
  have Hn := Lib.hid hn
  clear h hn
  go_enter Try.func104, Try.ntmps104
  go_wp2_with fail
  go_loopw [5] (fun vi wr => ∃ i : Nat, vi = .int .i64 (i + 1) ∧ i ≤ es.length ∧ Hid (risingN (es.take (i + 1)) = true) ∧ Hid (∃ q, wr = w.drewN q)) (fun vi _ => es.length + 1 - (intOf vi).toNat)
  case atStart =>
    refine ⟨0, rfl, by omega, ?_, ⟨0, rfl⟩⟩
    match es with
    | [] => rfl
    | [x] => rfl
    | x :: y :: l => rfl
  case round =>
    obtain ⟨i, rfl, hi, hr, hq⟩ := hrel
    have H1 : Hid (PIn wr S es p) := by obtain ⟨q, e⟩ := hq.out; rw [e]; exact H.out.drewN q
    have Hn1 : Hid (∀ k ∈ es, NIn wr S k ∧ k.ok) := by obtain ⟨q, e⟩ := hq.out; rw [e]; exact fun k hk => ⟨(Hn.out k hk).1.drewN q, (Hn.out k hk).2⟩
    by_cases hlt : i + 1 < es.length
    · obtain ⟨x, hx⟩ : ∃ x, es[i]? = some x := ⟨_, List.getElem?_eq_getElem (by omega)⟩
      obtain ⟨y, hy⟩ : ∃ y, es[i + 1]? = some y := ⟨_, List.getElem?_eq_getElem (by omega)⟩
      obtain ⟨a, rfl, hSa, hcx⟩ := H1.out i x hx
      obtain ⟨a', ha', _, hcy⟩ := H1.out (i + 1) y hy
      injection ha' with ha'
      subst ha'
      have hcy' : wr.cell? ⟨a.block, a.off + (i + 1), none⟩ = some (nptr y) := by rw [← add_pos _ _ (by omega)]; exact hcy
      have nx := Hn1.out x (List.mem_of_getElem? hx)
      have ny := Hn1.out y (List.mem_of_getElem? hy)
      have hcl := fun m => inner1_any (wr.drewN m) (nx.1.drewN m) (ny.1.drewN m) nx.2 ny.2
      have Hcl := Lib.hid hcl
      have hstep := risingN_take es i hx hy hr.out
      have Hstep := Lib.hid hstep
      clear hstep hx hy nx ny hcl
      have hw1 : IntKind.i64.wrap (i : Int) = (i : Int) := IntWalk.i64_in _ (by omega)
      have hw4 : (i : Int) < (es.length : Int) := by omega
      have hw2 : ((i : Int) + 1).toNat = i + 1 := by omega
      have hw3 : (i : Int) + 1 < (es.length : Int) := by omega
      have hw5 : (0 : Int) ≤ (i : Int) + 1 := by omega
      go_wp2_with fail
      go_quiet ((go_at_call 105; exact Calls.quiet_of (Hcl.out _)))
      cases hk : ahead x y with
      | true =>
        go_wp2_with fail
        go_roundw
        case rel => exact ⟨i + 1, by go_num, by omega, by rw [Hid, Hstep.out]; first | assumption | rfl, by obtain ⟨q, e⟩ := hq.out; exact ⟨_, by rw [e, World.drewN_drewN]⟩⟩
        case measure => simp [intOf]; omega
      | false =>
        go_wp2_with fail
        go_ret
        exact ⟨by rw [risingN_part (i := i + 2) (by rw [Hstep.out]; first | assumption | rfl)]; rfl, by obtain ⟨q, e⟩ := hq.out; exact ⟨_, by rw [e, World.drewN_drewN]⟩⟩
    · go_wp2_with fail
      go_ret
      refine ⟨?_, hq.out⟩
      have := hr.out
      rw [List.take_of_length_le (by omega)] at this
      rw [this]
      rfl
end Go.Proofs.Ytajcmpafbcpicaa
