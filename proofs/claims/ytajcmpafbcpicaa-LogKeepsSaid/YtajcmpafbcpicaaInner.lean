/- node.Inner: the node of kids that may stand together; else ErrArg. Condition: the kids lie in memory and are some that may be; their heights and counts are far from the greatest int. -/
import Derived.Test.YtajcmpafbcpicaaNode2
import Derived.Test.YtajcmpafbcpicaaInnerLaws
import Derived.Deep.DeepCutAuto
set_option linter.unusedVariables false
set_option linter.unusedSimpArgs false
namespace Go.Proofs.Ytajcmpafbcpicaa
open Go.RowKit

def InnerPost (S : Nat → Prop) (ks : List Nd) (w : World) (e : Ending) (w' : World) : Prop :=
  Below w.heap.size w w' ∧ ((together ks ∧ ∃ a, e = .returned (.tuple #[nptr (.mk a [] ks), .int .i64 0]) ∧ w.heap.size ≤ a ∧ NIn w' (fun b => S b ∨ w.heap.size ≤ b) (.mk a [] ks)) ∨
    (¬ together ks ∧ e = .returned (.tuple #[.pointer none, .int .i64 2])))

/-- The new node, while its kids are counted. -/
structure InnInv (w : World) (ks : List Nd) (h0 g : Nat) (pk : Option Addr) (ck n : Nat) (wr : World) : Prop where
  blk : Blk wr g 160 #[.slice none 0 0, .slice pk ks.length ck, .int .i64 (n : Nat), .int .i64 ((h0 : Nat) + 1 : Int)]
  row : wr.ownsRow w.heap.size 30 1 (.slice pk ks.length ck) ks.length (ks.map nptr)
  bel : Below w.heap.size w wr
  le : w.heap.size ≤ g

theorem InnInv.under {w wr w1 : World} {ks : List Nd} {h0 g : Nat} {pk : Option Addr} {ck n : Nat} (h : InnInv w ks h0 g pk ck n wr) (hb : Below wr.heap.size wr w1) : InnInv w ks h0 g pk ck n w1 :=
  ⟨h.blk.under hb, own_under h.row hb, below_then h.bel h.bel.size hb, h.le⟩
theorem below_drewN_self (w : World) (q : Nat) : Below w.heap.size w (w.drewN q) := ⟨rfl, rfl, rfl, Nat.le_refl _, fun _ _ => rfl⟩
theorem InnInv.step {w wr : World} {ks : List Nd} {h0 g : Nat} {pk : Option Addr} {ck n : Nat} (h : InnInv w ks h0 g pk ck n wr) (m : Nat) : InnInv w ks h0 g pk ck (n + m) (wr.setCell ⟨g, 2, none⟩ (.int .i64 ((n : Int) + (m : Int)))) := by
  refine ⟨?_, own_far h.row _ _ (own_blk_ne h.row h.blk (by decide)), h.bel.setCell (p := ⟨g, 2, none⟩) h.le _, h.le⟩
  have := h.blk.set_ 2 (.int .i64 ((n : Int) + (m : Int)))
  simpa using this
theorem PIn.of_own {w : World} {B : Nat} {S : Nat → Prop} {ks : List Nd} {pk : Option Addr} {ck : Nat} (h : w.ownsRow B 30 1 (.slice pk ks.length ck) ks.length (ks.map nptr)) (hS : ∀ b, B ≤ b → S b) : PIn w S ks pk ∧ ks.length ≤ ck := by
  rcases h.2 with ⟨e, h0⟩ | ⟨g, cap, cur, e, hb, hh, hn, _⟩
  · have : ks = [] := List.eq_nil_of_length_eq_zero h0
    subst this
    exact ⟨fun i k hi => by simp at hi, Nat.zero_le _⟩
  · injection e with e1 e2 e3
    subst e1
    subst e3
    refine ⟨fun i k hi => ⟨_, rfl, hS g hb, h.cells (g := g) rfl i _ (by rw [List.getElem?_map, hi]; rfl)⟩, hn⟩
theorem InnInv.node {w wr : World} {S : Nat → Prop} {ks : List Nd} {k0 : Nd} {g : Nat} {pk : Option Addr} {ck : Nat} (h : InnInv w ks k0.hgt g pk ck (cnts ks) wr) (hk0 : ks[0]? = some k0) (hn : ∀ k ∈ ks, NIn w S k)
    (hc : cnts ks ≤ 1099511627776) (hh : k0.hgt < 1099511627776) : NIn wr (fun b => S b ∨ w.heap.size ≤ b) (.mk g [] ks) := by
  obtain ⟨hpi, hcap⟩ := PIn.of_own (S := fun b => S b ∨ w.heap.size ≤ b) h.row (fun b hb => .inr hb)
  have e1 : (Nd.mk g [] ks).cnt = cnts ks := by
    cases ks with
    | nil => simp at hk0
    | cons k l => simp [Nd.cnt, Nd.sh, Sh.flat, cnts, shs]
  have e2 : (Nd.mk g [] ks).hgt = k0.hgt + 1 := by
    cases ks with
    | nil => simp at hk0
    | cons k l =>
      simp at hk0
      subst hk0
      simp [Nd.hgt, Nd.sh, shs, Sh.height]; omega
  refine NIn.mk none pk 0 ck (.inr h.le) ?_ (by rw [e1, e2]; omega) ⟨Nat.le_refl _, hcap⟩ (EIn.nil _ _ _) hpi fun i k hi => ?_
  · rw [e1, e2]
    exact h.blk.cells
  · exact ((hn k (List.mem_of_getElem? hi)).under h.bel).more fun b hb _ => .inl hb
theorem inner_small {S : Nat → Prop} (ks : List Nd) (w : World) (p : Option Addr) (c : Nat) (hsz : ¬ (2 ≤ ks.length ∧ ks.length ≤ 8)) :
    Calls Try.prog 33 #[.slice p ks.length c] w (InnerPost S ks w) := by
  have hno : ¬ together ks := by
    rintro ⟨h1, h2⟩
    have h3 := (Sh.may_inner [] (shs ks) (by simpa [shs_map] using h1)).1 h2
    have hlen : (shs ks).length = ks.length := by simp [shs_map]
    omega
  by_cases h2 : ks.length < 2
  · go_enter Try.func33, Try.ntmps33
    go_wp2_with fail
    go_ret2
    exact ⟨Below.refl _ _, .inr ⟨hno, rfl⟩⟩
  · have h9 : 8 < ks.length := by omega
    have h2' : 2 ≤ ks.length := by omega
    clear h2
    go_enter Try.func33, Try.ntmps33
    go_wp2_with fail
    go_ret2
    exact ⟨Below.refl _ _, .inr ⟨hno, rfl⟩⟩

set_option maxRecDepth 100000 in
set_option maxHeartbeats 4000000 in
theorem inner_any {S Sp : Nat → Prop} (ks : List Nd) (w : World) (p : Option Addr) (c : Nat) (hp : PIn w Sp ks p) (hn : ∀ k ∈ ks, NIn w S k ∧ k.ok) (hc : cnts ks ≤ 1099511627776) (hh : ∀ k ∈ ks, k.hgt < 1099511627776) :
    Calls Try.prog 33 #[.slice p ks.length c] w (InnerPost S ks w) := by
  by_cases hsz : 2 ≤ ks.length ∧ ks.length ≤ 8
  case neg => exact inner_small ks w p c hsz
  obtain ⟨hl2, hl8⟩ := hsz
  obtain ⟨k0, hk0⟩ : ∃ k0, ks[0]? = some k0 := ⟨_, List.getElem?_eq_getElem (by omega)⟩
  have htog : together ks ↔ 2 ≤ ks.length ∧ ks.length ≤ 8 ∧ (∀ x ∈ ks, x.cnt ≠ 0 ∧ x.hgt = k0.hgt) ∧ risingN ks = true := by
    cases hks : ks with
    | nil => rw [hks] at hk0; simp at hk0
    | cons k l =>
      rw [hks] at hk0
      simp at hk0
      subst hk0
      exact together_iff k l (fun x hx => (hn x (by rw [hks]; exact hx)).2)
  have Htog := Lib.hid htog
  clear htog
  obtain ⟨ad, rfl, hSp, hcell0⟩ := hp 0 k0 hk0
  simp only [add_zero] at hcell0
  have hcl := fun W => clonen_any (some ad) ks.length c (ks.map nptr) W
  have hcl2 : ∀ W, Below w.heap.size w W → Calls Try.prog 103 #[.slice (some ad) ks.length c] W fun e w' => ∃ v, e = .returned v ∧ w'.ownsRow W.heap.size 30 1 v ks.length (ks.map nptr) ∧ Below W.heap.size W w' := by
    intro W hW
    refine hcl W (by simp) (fun e => by cases e) (fun a' e j u hu => ?_) (fun u hu => by obtain ⟨k, _, rfl⟩ := List.mem_map.1 hu; rfl) (by omega)
    injection e with e
    subst e
    rw [List.getElem?_map] at hu
    cases hj : ks[j]? with
    | none => rw [hj] at hu; cases hu
    | some k =>
      rw [hj] at hu
      injection hu with hu
      subst hu
      obtain ⟨ad', q, hS', hc'⟩ := hp j k hj
      injection q with q
      subst q
      exact cell_below (w := w) ⟨hW.os, hW.tape, hW.output, hW.size, hW.block⟩ hc'
  have Hcl := Lib.hid hcl2
  have Hp := Lib.hid hp
  have Hn := Lib.hid hn
  have Hk0 := Lib.hid hk0
  have hk0h := hh k0 (List.mem_of_getElem? hk0)
  have Hh := Lib.hid hh
  have hwr : IntKind.i64.wrap ((k0.hgt : Int) + 1) = (k0.hgt : Int) + 1 := IntWalk.i64_in _ (by omega)
  clear hcl hcl2 hp hn hk0 hh
  go_enter Try.func33, Try.ntmps33
  go_upto_region 3 with fail
  go_cut [4] (fun v4 W1 => ∃ g pk ck, v4 = .pointer (some ⟨g, 0, none⟩) ∧ InnInv w ks k0.hgt g pk ck 0 W1)
  case first =>
    go_region_with (first
      | (go_at_call 103; refine (Hcl.out w.drew (Below.refl _ _).drew).mono ?_; rintro e w1 ⟨v1, rfl, ho1, hb1⟩; obtain ⟨pk1, ck1, rfl⟩ := own_slice ho1; have hb1 := below_of_drew hb1; have kc := cell_below hb1 hcell0; have Ho1 := Lib.hid ho1; clear ho1)
      | (go_at_call 40; refine (height_any w1 ((Hn.out k0 (List.mem_of_getElem? Hk0.out)).1.under hb1)).mono ?_; rintro e w2 ⟨rfl, rfl⟩))
    all_goals (go_wp2_with fail; go_meet)
    all_goals exact ⟨_, _, _, rfl, ⟨Blk.new _ _ _, Ho1.out.alloc _, hb1.alloc hb1.size _, hb1.size⟩⟩
  case rest =>
    obtain ⟨g, pk, ck, rfl, hinv⟩ := hcut
    have Hinv := Lib.hid hinv
    clear hinv
    have Hc := Lib.hid hc
    clear hc hcell0
    go_wp2_with fail
    go_loopw [6, 26] (fun vk vi wr => ∃ i : Nat, i ≤ ks.length ∧ vi = .int .i64 i ∧ Hid (InnInv w ks k0.hgt g pk ck (cnts (ks.take i)) wr) ∧ Hid (∀ x ∈ ks.take i, x.cnt ≠ 0 ∧ x.hgt = k0.hgt)) (fun vk vi _ => ks.length - (intOf vi).toNat)
    case atStart => exact ⟨0, by omega, rfl, Hinv, fun x hx => by simp at hx⟩
    case round =>
      obtain ⟨i, hi, rfl, Hr, Hall⟩ := hrel
      by_cases hlt : i < ks.length
      · obtain ⟨y, hy⟩ : ∃ y, ks[i]? = some y := ⟨_, List.getElem?_eq_getElem hlt⟩
        have Hb := Lib.hid Hr.out.bel
        obtain ⟨ad', hadd, _, hcy⟩ := Hp.out i y hy
        injection hadd with hadd
        subst hadd
        have hcy' : wr.cell? (ad.add i) = some (nptr y) := cell_below Hb.out hcy
        have hny := Hn.out y (List.mem_of_getElem? hy)
        have Hny := Lib.hid (hny.1.under Hb.out)
        have hyh := Hh.out y (List.mem_of_getElem? hy)
        have hgb := Hr.out.blk
        have c2 := hgb.cell 2
        have c3 := hgb.cell 3
        have hfz := hgb.frozen 2
        simp at c2 c3
        obtain ⟨pe', pk', ce', ck', _, y0, y1, y2, y3, hyb, _⟩ := Hny.out.open_
        have Hy := Lib.hid hy
        have hcnt : Hid (cnts (ks.take (i + 1)) = cnts (ks.take i) + y.cnt) := cnts_take hy
        have hcle : cnts (ks.take (i + 1)) ≤ 1099511627776 := Nat.le_trans (cnts_le ks _) Hc.out
        rw [hcnt.out] at hcle
        have hcq := fun q => (count_any (wr.drewN q) (Hny.out.drewN q)).mono (R' := fun e w' => e = .returned (.int .i64 (y.cnt : Nat)) ∧ w' = wr.drewN q) (fun e w' ⟨a, b⟩ => ⟨a, b.symm⟩)
        have Hcq := Lib.hid hcq
        clear hy hcy hny hgb hcq
        by_cases hz : y.cnt = 0
        · have hz1 : ((y.cnt : Int) == 0) = true := by rw [hz]; rfl
          have Hz := Lib.hid hz
          clear hz
          go_wp2_with fail
          go_quiet ((go_at_call 42; exact Calls.quiet_of_same (Hcq.out _)))
          go_wp2_with fail
          go_ret2
          exact ⟨below_drewN Hb.out _, .inr ⟨fun ht => ((Htog.out.1 ht).2.2.1 y (List.mem_of_getElem? Hy.out)).1 Hz.out, rfl⟩⟩
        · have hz1 : ((y.cnt : Int) == 0) = false := by rw [beq_eq_false_iff_ne]; omega
          have hwy : IntKind.i64.wrap ((y.hgt : Int) + 1) = (y.hgt : Int) + 1 := IntWalk.i64_in _ (by omega)
          by_cases hhh : y.hgt = k0.hgt
          · have hwn : (((y.hgt : Int) + 1) != ((k0.hgt : Int) + 1)) = false := by rw [hhh]; simp
            have hws : IntKind.i64.wrap ((cnts (ks.take i) : Int) + (y.cnt : Int)) = (cnts (ks.take i) : Int) + (y.cnt : Int) := IntWalk.i64_in _ (by omega)
            have Hhh := Lib.hid hhh
            clear hhh
            go_wp2_with fail
            go_quiet ((go_at_call 42; exact Calls.quiet_of_same (Hcq.out _)))
            go_wp2_with fail
            go_region
            all_goals go_wp2_with fail
            all_goals go_roundw
            case measure => simp [intOf]; omega
            case rel =>
              refine ⟨i + 1, by omega, by go_num, ?_, ?_⟩
              · rw [hcnt.out]
                exact ((Hr.out.under (below_drewN_self wr nq)).under (Below.refl _ _).drew).step y.cnt
              · intro x hx
                rw [List.take_add_one, Hy.out] at hx
                rcases List.mem_append.1 hx with hx | hx
                · exact Hall.out x hx
                · simp at hx; subst hx; exact ⟨hz, Hhh.out⟩
          · have hwn : (((y.hgt : Int) + 1) != ((k0.hgt : Int) + 1)) = true := by rw [bne_iff_ne]; omega
            have Hhh := Lib.hid hhh
            clear hhh
            go_wp2_with fail
            go_quiet ((go_at_call 42; exact Calls.quiet_of_same (Hcq.out _)))
            go_wp2_with fail
            go_ret2
            exact ⟨below_drewN Hb.out _, .inr ⟨fun ht => Hhh.out ((Htog.out.1 ht).2.2.1 y (List.mem_of_getElem? Hy.out)).2, rfl⟩⟩
      · obtain rfl : i = ks.length := by omega
        have Hb := Lib.hid Hr.out.bel
        have hr' := Hr.out
        have ha' := Hall.out
        rw [List.take_length] at hr' ha'
        have hris := risingN_any ks (by omega) wr (fun _ => True) (some ad) c ((Hp.out.under Hb.out).more fun _ _ _ => trivial) (fun k hk => ⟨((Hn.out k hk).1.under Hb.out).more fun _ _ _ => trivial, (Hn.out k hk).2⟩)
        have Hris := Lib.hid hris
        have Hr' := Lib.hid hr'
        have Ha' := Lib.hid ha'
        clear hris hr' ha' Hr Hall
        cases hrr : risingN ks with
        | true =>
          go_wp2_with (go_at_call 104; refine Hris.out.mono ?_; rintro e w1 ⟨rfl, q, rfl⟩)
          go_ret2
          exact ⟨below_drewN Hb.out _, .inl ⟨Htog.out.2 ⟨hl2, hl8, Ha'.out, hrr⟩, g, rfl, Hr'.out.le, (Hr'.out.node Hk0.out (fun k hk => (Hn.out k hk).1) Hc.out hk0h).drewN q⟩⟩
        | false =>
          go_wp2_with (go_at_call 104; refine Hris.out.mono ?_; rintro e w1 ⟨rfl, q, rfl⟩)
          go_ret2
          exact ⟨below_drewN Hb.out _, .inr ⟨fun ht => (by have q2 := (Htog.out.1 ht).2.2.2; rw [hrr] at q2; cases q2), rfl⟩⟩
end Go.Proofs.Ytajcmpafbcpicaa
