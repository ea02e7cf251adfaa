/- The walk of the law NodeInner: it answers true. Conditions: the shapes lie in memory and fit. -/
import Derived.Test.YtajcmpafbcpicaaNsRow
import Derived.Test.YtajcmpafbcpicaaBounds
import Derived.Test.YtajcmpafbcpicaaPtrEq
import Derived.Deep.DeepCutAuto
set_option linter.unusedVariables false
set_option linter.unusedSimpArgs false
namespace Go.Proofs.Ytajcmpafbcpicaa
open Go.RowKit

def KidsP (ns : List Nd) (w : World) (e : Ending) (w' : World) : Prop :=
  ∃ p c, e = .returned (.slice p ns.length c) ∧ w'.ownsRow w.heap.size 30 1 (.slice p ns.length c) ns.length (ns.map nptr) ∧ Below w.heap.size w w'
theorem row_form {w : World} {base : Nat} {ns : List Nd} {p : Option Addr} {c : Nat} (h : w.ownsRow base 30 1 (.slice p ns.length c) ns.length (ns.map nptr)) (h0 : 0 < ns.length) :
    ∃ g, p = some ⟨g, 0, none⟩ ∧ base ≤ g ∧ RowB w g 30 ns.length ∧ ∀ j k, ns[j]? = some k → w.cell? ⟨g, j, none⟩ = some (nptr k) := by
  obtain ⟨p', c', e, h1, h2⟩ := own_form h
  injection e with e1 e2 e3
  obtain ⟨g, e4, h3, h4⟩ := h1 h0
  refine ⟨g, e1.trans e4, h3, by simpa using h4, fun j k hj => ?_⟩
  have := h2 g e4 j (nptr k) (by rw [List.getElem?_map, hj]; rfl)
  rwa [add_lit, Nat.zero_add] at this
/-- The kids, gathered in one row and copied into another one. -/
structure In7 (w : World) (ns : List Nd) (v3 v7 : Value) (W : World) : Prop where
  row3 : W.ownsRow w.heap.size 30 1 v3 ns.length (ns.map nptr)
  row7 : W.ownsRow w.heap.size 30 1 v7 ns.length (ns.map nptr)
  ne : ∀ b, v3.ownBlock = some b → v7.ownBlock ≠ some b
  nin : ∀ n ∈ ns, NIn W (fun b => w.heap.size ≤ b ∧ v3.ownBlock ≠ some b ∧ v7.ownBlock ≠ some b) n ∧ n.ok
  bel : Below w.heap.size w W

theorem In7.start {w wr w4 : World} {l : List Sh} {ns : List Nd} {v3 v7 : Value} (h : NsInv w.heap.size l v3 ns wr) (hb : Below w.heap.size w wr) (h7 : w4.ownsRow w.heap.size 30 1 v7 ns.length (ns.map nptr))
    (hg : wr.grownBy w4 none) (hat : v7.ownBlock = none ∨ v7.ownBlock = some wr.heap.size) : In7 w ns v3 v7 w4 := by
  have hkeep : ∀ b, b < wr.heap.size → w4.heap[b]? = wr.heap[b]? := fun b hl => hg.block b hl (fun e => by cases e)
  have hu : Below wr.heap.size wr w4 := ⟨hg.os, hg.tape, hg.output, hg.size, hkeep⟩
  have hne : ∀ b, b < wr.heap.size → v7.ownBlock ≠ some b := fun b hl e => by
    rcases hat with e' | e'
    · rw [e] at e'; cases e'
    · rw [e] at e'; injection e' with e'; omega
  exact ⟨own_under h.row hu, h7, fun b hb3 => hne b (h.row.lt b hb3).2, fun n hn => ⟨(h.nin n hn).keep fun b hS hl => ⟨⟨hS.1, hS.2, hne b hl⟩, hkeep b hl⟩, h.may n hn⟩, below_then hb hb.size hu⟩

set_option maxRecDepth 100000 in
set_option maxHeartbeats 4000000 in
theorem inner_walk (l : List Sh) (hf : ∀ s ∈ l, s.Fits) (w : World) (p : Option Addr) (c : Nat) (hl0 : KIn w (fun _ => True) l p) :
    Calls Try.prog 3 #[.slice p l.length c] w (BoolPost true w) := by
  have hl : KIn w (fun b => b < w.heap.size) l p := hl0.keep fun b _ hb => ⟨hb, rfl⟩
  have Hl := Lib.hid hl
  have Hf := Lib.hid hf
  have HK := Lib.hid known_any
  clear hl hl0 hf
  obtain ⟨i0, z0, hi, hz0, hz1, hz2, hz3⟩ := info_parts2 infoN
  by_cases h10 : 10 < l.length
  · have h10' : decide ((10 : Int) < (l.length : Int)) = true := decide_eq_true (by omega)
    have h10'' : decide (10 < l.length) = true := decide_eq_true (by omega)
    go_enter Try.func3, Try.ntmps3
    go_wp2_with (go_at_call 29; refine (HK.out w).mono ?_; rintro e w2 ⟨rfl, hb2⟩; have Hb2 := Lib.hid hb2; clear hb2)
    go_ret
    exact ⟨rfl, Hb2.out⟩
  have h10' : decide ((10 : Int) < (l.length : Int)) = false := decide_eq_false (by omega)
  have h10'' : decide (10 < l.length) = false := decide_eq_false (by omega)
  go_enter Try.func3, Try.ntmps3
  go_wp2_with fail
  go_loopw [3, 4] (fun vk vi wr => ∃ ns : List Nd, ns.length ≤ l.length ∧ vi = .int .i64 (ns.length : Nat) ∧ Hid (NsInv w.heap.size l vk ns wr) ∧ Hid (Below w.heap.size w wr) ∧ Hid (∀ s ∈ l.take ns.length, smallS 8 s = true ∧ s.may = true)) (fun vk vi _ => l.length - (intOf vi).toNat)
  case atStart => exact ⟨[], by simp, rfl, NsInv.nil _ _ _, Below.refl _ _, (fun s hs => by simp at hs)⟩
  case round =>
    obtain ⟨ns, hle, rfl, Hr, Hb, Ha⟩ := hrel
    obtain ⟨po, co, rfl⟩ := own_slice Hr.out.row
    by_cases hlt : ns.length < l.length
    · obtain ⟨k, hk⟩ : ∃ k, l[ns.length]? = some k := ⟨_, List.getElem?_eq_getElem hlt⟩
      obtain ⟨a, qe, de, qk, dk, rfl, c0, c1, hsk⟩ := Hl.out.cells hk
      have hax := World.block_lt_of_cell? w _ c0
      have c0' := Hb.out.cell (p := a.add (ns.length * 2)) hax
      have c1' := Hb.out.cell (p := ⟨(a.add (ns.length * 2)).block, (a.add (ns.length * 2)).off + 1, none⟩) hax
      rw [c0] at c0'
      rw [c1] at c1'
      have hmem := List.mem_of_getElem? hk
      have hfk := Hf.out k hmem
      have hsW := hsk.under Hb.out
      have hcS := small_any k 8 (by omega) wr _ qe de qk dk hsW
      have HcS := Lib.hid hcS
      have HsW := Lib.hid hsW
      have HK1 := Lib.hid hk
      have Hmem := Lib.hid hmem
      have Hfk := Lib.hid hfk
      have Hbc : Hid (∀ (p : Addr) (v : Value) (W : World), Below wr.heap.size wr W → wr.cell? p = some v → W.cell? p = some v) := fun p v W hW h => by
        have hl := World.block_lt_of_cell? wr p h
        rw [hW.cell hl]; exact h
      clear c0 c1 hsk hk hmem hfk hcS hsW
      cases hsm : smallS 8 k with
      | false =>
        rw [hsm] at HcS
        go_wp2_with (first
          | (go_at_call 30; refine HcS.out.mono ?_; rintro e w1 ⟨rfl, hb1⟩; have Hb1 := Lib.hid (below_then Hb.out Hb.out.size hb1); clear hb1)
          | (go_at_call 29; refine (HK.out w1).mono ?_; rintro e w2 ⟨rfl, hb2⟩; have Hb2 := Lib.hid (bel_tr Hb1.out hb2); clear hb2))
        go_ret
        exact ⟨rfl, Hb2.out⟩
      | true =>
        rw [hsm] at HcS
        have htrim := small_trim (by omega) hsm
        have hneat := small_neat (by omega) hsm
        have HcM := Lib.hid (fun (W : World) (hW : Below wr.heap.size wr W) => rmay_any k htrim W (fun b => b < w.heap.size) qe de qk dk (fun b hb => Nat.lt_of_lt_of_le hb (Nat.le_trans Hb.out.size hW.size)) (HsW.out.under hW))
        have HcO := Lib.hid (fun (W : World) (hW : Below wr.heap.size wr W) => of_any k hneat Hfk.out htrim W (fun b => b < w.heap.size) qe de qk dk (HsW.out.under hW))
        have Hsm := Lib.hid hsm
        clear htrim hneat hsm
        cases hm : k.may with
        | false =>
          rw [hm] at HcM
          go_wp2_with (first
            | (go_at_call 30; refine HcS.out.mono ?_; rintro e w1 ⟨rfl, hb1⟩; have d0 := Hbc.out _ _ _ hb1 c0'; have d1 := Hbc.out _ _ _ hb1 c1'; have HB1 := Lib.hid hb1; clear hb1)
            | (go_at_call 31; refine (HcM.out w1 HB1.out).mono ?_; rintro e w2 ⟨rfl, hb2⟩; have HB2 := Lib.hid (below_then HB1.out HB1.out.size hb2); clear hb2)
            | (go_at_call 29; refine (HK.out w2).mono ?_; rintro e w3 ⟨rfl, hb3⟩; have HB3 := Lib.hid (below_then HB2.out HB2.out.size hb3); clear hb3))
          go_ret
          exact ⟨rfl, below_then Hb.out Hb.out.size HB3.out⟩
        | true =>
          have Hm := Lib.hid hm
          rw [hm] at HcM
          clear hm
          have HcY := Lib.hid (fun (W : World) (hW : Below wr.heap.size wr W) => (HcO.out W hW).mono fun e w' h => of_yes h Hm.out)
          have hown : ∀ g, (Value.slice po ns.length co).ownBlock = some g → w.heap.size ≤ g ∧ g < wr.heap.size := fun g hg => Hr.out.row.lt g hg
          have Hown := Lib.hid hown
          clear hown
          go_wp2_with (first
            | (go_at_call 30; refine HcS.out.mono ?_; rintro e w1 ⟨rfl, hb1⟩; have d0 := Hbc.out _ _ _ hb1 c0'; have d1 := Hbc.out _ _ _ hb1 c1'; have HB1 := Lib.hid hb1; clear hb1)
            | (go_at_call 31; refine (HcM.out w1 HB1.out).mono ?_; rintro e w2 ⟨rfl, hb2⟩; have hb2' := below_then HB1.out HB1.out.size hb2; have e0 := Hbc.out _ _ _ hb2' c0'; have e1 := Hbc.out _ _ _ hb2' c1'; have HB2 := Lib.hid hb2'; clear hb2 hb2')
            | (go_at_call 32; refine (HcY.out w2 HB2.out).mono ?_; rintro e w3 ⟨n, rfl, hsh, hn, hb3⟩; have Hn := Lib.hid hn; have Hsh := Lib.hid hsh; have HB3 := Lib.hid (below_then HB2.out HB2.out.size hb3); clear hb3 hn hsh)
            | (at_builtin; refine wpList_append_own_at _ rfl _ _ 24 rfl w.heap.size 30 i0 z0 1 8 Try.underlying24 hi hz0 hz1 hz2 hz3 (by decide) (.slice po ns.length co) ns.length (ns.map nptr) rfl ((own_under Hr.out.row HB3.out).alloc _) ⟨w3.heap.size, 0, none⟩ 1 1 [nptr n] rfl rfl (World.news_of_block (cs := #[nptr n]) (t := 30) (fr := (0, 0)) (heap_alloc_new w3 _)) (by simp [nptr, Value.oneCell']) (by simp only [maxLen]; omega) (by omega) (by have := Hb.out.size; have := HB3.out.size; simp only [World.size_alloc]; omega) ?_; intro v2 w4 hown2 hgr2 _ hat2; have Hown2 := Lib.hid hown2; have Hgr2 := Lib.hid hgr2; have Hat2 := Lib.hid hat2; clear hown2 hgr2 hat2))
          have hpush := Hr.out.push HK1.out Hb.out.size HB3.out Hsh.out Hm.out (Hn.out.more fun b hb _ => Nat.le_trans HB2.out.size hb) Hown2.out Hgr2.out Hat2.out
          refine ⟨⟨ns ++ [n], (by have : (ns ++ [n]).length = ns.length + 1 := List.length_append; omega), (by simp), hpush.1, hpush.2 w Hb.out (Nat.le_refl _), ?_⟩, (by first | (simp [intOf]; omega) | (simp [intOf]; done))⟩
          intro s hs
          rw [show (ns ++ [n]).length = ns.length + 1 from List.length_append, List.take_add_one, HK1.out] at hs
          rcases List.mem_append.1 hs with hs | hs
          · exact Ha.out s hs
          · simp at hs; subst hs; exact ⟨Hsm.out, Hm.out⟩
    · have hl : ns.length = l.length := by omega
      have hns := Hr.out.ns_
      rw [hl, List.take_length] at hns
      have hall := Ha.out
      rw [hl, List.take_length] at hall
      have Hns := Lib.hid hns
      have Hall := Lib.hid hall
      have Hlen := Lib.hid hl
      clear hns hall hl Ha
      go_upto_region 13 with fail
      go_cut [7] (fun v7 W => ∃ p7 c7, v7 = .slice p7 ns.length c7 ∧ Hid (In7 w ns (.slice po ns.length co) (.slice p7 ns.length c7) W))
      case first =>
        by_cases hnil : ns = []
        · subst hnil
          simp only [List.length_nil]
          go_wp2_with (at_builtin; refine wpList_append_zero Try.underlying24 hi rfl _ _ rfl rfl rfl ?_)
          go_meet
          exact ⟨none, 0, rfl, In7.start Hr.out Hb.out (World.ownsRow_nil _ _ _ _) ⟨rfl, rfl, rfl, Nat.le_refl _, fun _ _ _ => rfl⟩ (.inl rfl)⟩
        · have hpos : 0 < ns.length := List.length_pos_iff.2 hnil
          have Hnil := Lib.hid hnil
          clear hnil
          obtain ⟨g, cap, hv, hg, hglt⟩ := Hr.out.row.form (by omega)
          injection hv with hv1 hv2 hv3
          subst hv1 hv3
          have hrow := Hr.out.row
          have hcells := hrow.cells (g := g) rfl
          have Hcells := Lib.hid hcells
          clear hcells hrow
          go_wp2_with (at_builtin; refine wpList_append_own_at _ rfl _ _ 24 rfl w.heap.size 30 i0 z0 1 8 Try.underlying24 hi hz0 hz1 hz2 hz3 (by decide) (.slice none 0 0) 0 [] rfl (World.ownsRow_nil _ _ _ _) ⟨g, 0, none⟩ ns.length co (ns.map nptr) rfl (by simp) Hcells.out (by intro u hu; obtain ⟨m, _, rfl⟩ := List.mem_map.1 hu; rfl) (by simp only [maxLen]; omega) (by omega) Hb.out.size ?_; intro v2 w4 hown2 hgr2 _ hat2; have Hown2 := Lib.hid hown2; have Hgr2 := Lib.hid hgr2; have Hat2 := Lib.hid hat2; clear hown2 hgr2 hat2)
          obtain ⟨g2, cap2, rfl, hg2, hg2lt⟩ := Hown2.out.form (by omega)
          go_meet
          have hrow2 : w4.ownsRow w.heap.size 30 1 (.slice (some ⟨g2, 0, none⟩) ns.length cap2) ns.length (ns.map nptr) := by simpa using Hown2.out
          refine ⟨some ⟨g2, 0, none⟩, cap2, by simp, ?_⟩
          exact In7.start Hr.out Hb.out hrow2 Hgr2.out (Hat2.out.imp id id)
      case rest =>
        obtain ⟨p7, c7, rfl, H7⟩ := hcut
        have hsh : shs ns = l := by rw [shs_map, Hns.out]
        have hcc : cnts ns ≤ 1099511627776 := by
          unfold cnts
          rw [hsh]
          have := flats_len_le (c := 8000) (ks := l) fun k hk => small_flat_le (Hall.out k hk).1
          omega
        have hhg : ∀ k ∈ ns, k.hgt < 1099511627776 := fun k hk => by
          have hmem : k.sh ∈ l := by rw [← Hns.out]; exact List.mem_map_of_mem hk
          have := small_height (Hall.out _ hmem).1
          show k.sh.height < _
          omega
        have hcI := inner_any (S := fun b => w.heap.size ≤ b ∧ (Value.slice po ns.length co).ownBlock ≠ some b ∧ (Value.slice p7 ns.length c7).ownBlock ≠ some b) ns wc p7 c7 (PIn.of_own (S := fun _ => True) H7.out.row7 fun _ _ => trivial).1 H7.out.nin hcc hhg
        have HcI := Lib.hid hcI
        have Hsh := Lib.hid hsh
        have Hcc := Lib.hid hcc
        have Hhg := Lib.hid hhg
        clear hcI hsh hcc hhg
        have htrim : (Sh.mk [] l).Trim := by
          have hfl : (Sh.mk [] l).flat.length ≤ 80000 := by
            have h1 : (Sh.mk [] l).flat = flats l := by
              cases l with
              | nil => simp [Sh.flat, flats]
              | cons a b => simp [Sh.flat]
            have := flats_len_le (c := 8000) (ks := l) fun k hk => small_flat_le (Hall.out k hk).1
            rw [h1]; omega
          refine .mk (.mk (by simp) (by omega) fun k hk => small_thin (Hall.out k hk).1) (by omega) ?_ fun k hk => small_trim (by omega) (Hall.out k hk).1
          cases l with
          | nil => simp [Sh.height]
          | cons a b =>
            have := small_height (Hall.out a (by simp)).1
            simp [Sh.height]; omega
        have HcM := Lib.hid (fun (W : World) (hW : Below w.heap.size w W) => rmay_any (.mk [] l) htrim W (fun b => b < w.heap.size) none 0 p c (fun b hb => Nat.lt_of_lt_of_le hb hW.size) (SIn.of (EIn.nil _ _ _) (Hl.out.under hW)))
        clear htrim
        by_cases hgo : (Sh.mk [] l).may = true ∧ l ≠ []
        case neg =>
          have hno : ¬ together ns := fun h => hgo ⟨by have := h.2; rwa [Hsh.out] at this, fun e => h.1 (by have := Hlen.out; rw [e] at this; exact List.eq_nil_of_length_eq_zero this)⟩
          have hcN := HcI.out.mono (R' := fun e w' => e = .returned (.tuple #[.pointer none, .int .i64 2]) ∧ Below w.heap.size w w') fun e w' h => by
            rcases h with ⟨hb, (⟨ht, _⟩ | ⟨_, rfl⟩)⟩
            · exact absurd ht hno
            · exact ⟨rfl, below_then H7.out.bel H7.out.bel.size hb⟩
          have HcN := Lib.hid hcN
          clear hcN hno HcI
          cases hmay : (Sh.mk [] l).may with
          | false =>
            rw [hmay] at HcM
            clear hmay hgo
            go_wp2_with (first
              | (go_at_call 33; refine HcN.out.mono ?_; rintro e w5 ⟨rfl, hb5⟩; have Hb5 := Lib.hid hb5; clear hb5)
              | (go_at_call 31; refine (HcM.out w5 Hb5.out).mono ?_; rintro e w6 ⟨rfl, hb6⟩; have Hb6 := Lib.hid (bel_tr Hb5.out hb6); clear hb6)
              | (go_at_call 29; refine (HK.out w6).mono ?_; rintro e w7 ⟨rfl, hb7⟩; have Hb7 := Lib.hid (bel_tr Hb6.out hb7); clear hb7))
            go_ret
            exact ⟨rfl, Hb7.out⟩
          | true =>
            rw [hmay] at HcM
            have hz : l.length = 0 := by
              by_cases e : l = []
              · rw [e]; rfl
              · exact absurd ⟨hmay, e⟩ hgo
            have hz1 : ((l.length : Int) == 0) = true := by rw [hz]; rfl
            clear hmay hgo hz
            go_wp2_with (first
              | (go_at_call 33; refine HcN.out.mono ?_; rintro e w5 ⟨rfl, hb5⟩; have Hb5 := Lib.hid hb5; clear hb5)
              | (go_at_call 31; refine (HcM.out w5 Hb5.out).mono ?_; rintro e w6 ⟨rfl, hb6⟩; have Hb6 := Lib.hid (bel_tr Hb5.out hb6); clear hb6)
              | (go_at_call 29; refine (HK.out w6).mono ?_; rintro e w7 ⟨rfl, hb7⟩; have Hb7 := Lib.hid (bel_tr Hb6.out hb7); clear hb7))
            go_ret
            exact ⟨rfl, Hb7.out⟩
        case pos =>
          obtain ⟨hmay, hne⟩ := hgo
          rw [hmay] at HcM
          have hpos : 0 < ns.length := by
            have := Hlen.out
            have := List.length_pos_iff.2 hne
            omega
          have htog : together ns := ⟨List.length_pos_iff.1 hpos, by rw [Hsh.out]; exact hmay⟩
          have hz1 : ((l.length : Int) == 0) = false := by rw [beq_eq_false_iff_ne]; have := Hlen.out; omega
          have Htog := Lib.hid htog
          have hcN := HcI.out.mono (R' := fun e w' => ∃ a, e = .returned (.tuple #[nptr (.mk a [] ns), .int .i64 0]) ∧ Hid (NIn w' (fun b => w.heap.size ≤ b ∧ (Value.slice p7 ns.length c7).ownBlock ≠ some b) (.mk a [] ns)) ∧ Hid (In7 w ns (.slice po ns.length co) (.slice p7 ns.length c7) w') ∧ Hid (Below wc.heap.size wc w')) fun e w' h => by
            rcases h with ⟨hb, (⟨ht, a, rfl, ha, hn⟩ | ⟨hn, _⟩)⟩
            · refine ⟨a, rfl, hn.more fun b hb' hl => ?_, ⟨own_under H7.out.row3 hb, own_under H7.out.row7 hb, H7.out.ne, fun n hn => ⟨((H7.out.nin n hn).1.under hb), (H7.out.nin n hn).2⟩, below_then H7.out.bel H7.out.bel.size hb⟩, hb⟩
              rcases hb' with hb' | hb'
              · exact ⟨hb'.1, hb'.2.2⟩
              · exact ⟨Nat.le_trans H7.out.bel.size hb', fun e => by have := (H7.out.row7.lt b e).2; omega⟩
            · exact absurd htog hn
          have HcN := Lib.hid hcN
          clear hcN htog hmay hne HcI
          go_upto_region 17 with (first
              | (go_at_call 33; refine HcN.out.mono ?_; rintro e w5 ⟨a, rfl, Hn5, H5, Hb5⟩)
              | (go_at_call 31; refine (HcM.out w5 H5.out.bel).mono ?_; rintro e w6 ⟨rfl, hb6⟩; have Hb6 := Lib.hid hb6; clear hb6))
          obtain ⟨g7, cap7, hv7, hg7, hglt7⟩ := H5.out.row7.form hpos
          injection hv7 with e7 e7' e7''
          obtain ⟨g3, cap3, hv3, hg3, hglt3⟩ := H5.out.row3.form hpos
          injection hv3 with e3 e3' e3''
          subst e7 e7'' e3 e3''
          have hrb := own_form H5.out.row7
          have hR7 : RowB w5 g7 30 ns.length := by
            obtain ⟨p', c', e, h1, _⟩ := hrb
            injection e with e1 e2 e3
            obtain ⟨g', e4, _, h2⟩ := h1 hpos
            rw [← e1] at e4
            injection e4 with e4
            injection e4 with e4
            subst e4
            simpa using h2
          have hne37 : g3 ≠ g7 := fun e => H5.out.ne g3 rfl (by rw [e]; rfl)
          have hR6 := Lib.hid (hR7.under Hb6.out)
          have H6 : Hid (In7 w ns (.slice (some ⟨g3, 0, none⟩) ns.length co) (.slice (some ⟨g7, 0, none⟩) ns.length c7) w6) :=
            ⟨own_under H5.out.row3 Hb6.out, own_under H5.out.row7 Hb6.out, H5.out.ne, fun n hn => ⟨((H5.out.nin n hn).1.under Hb6.out), (H5.out.nin n hn).2⟩, below_then H5.out.bel H5.out.bel.size Hb6.out⟩
          have Hn6 := Lib.hid (Hn5.out.under Hb6.out)
          clear hR7 hrb Hb6 H5 Hn5 HcN HcM H7 Hb5
          have Hne37 := Lib.hid hne37
          clear hne37
          go_wp2_with fail
          go_loopw [10] (fun v10 wr => ∃ i : Nat, i ≤ ns.length ∧ v10 = .int .i64 i ∧ Hid (w6.grownBy wr (some g7)) ∧ Hid (RowB wr g7 30 ns.length)) (fun v10 _ => ns.length - (intOf v10).toNat)
          case atStart => exact ⟨0, by omega, rfl, ⟨rfl, rfl, rfl, Nat.le_refl _, fun _ _ _ => rfl⟩, hR6⟩
          case round =>
            obtain ⟨i, hi8, rfl, Hg8, HR8⟩ := hrel
            by_cases hlt : i < ns.length
            · obtain ⟨v0, hc0⟩ := HR8.out.some hlt
              have hf0 := HR8.out.frozen i
              go_wp2_with fail
              go_roundw
              case measure => simp [intOf]; omega
              case rel => exact ⟨i + 1, by omega, by go_num, Hg8.out.trans ⟨rfl, rfl, rfl, by simp, fun k _ hk => heap_setCell_other _ ⟨g7, i, none⟩ k _ (fun e => hk (by simp [e]))⟩, HR8.out.setCell _ _⟩
            · obtain rfl : i = ns.length := by omega
              have hkeep : ∀ b, b < w6.heap.size → b ≠ g7 → wr.heap[b]? = w6.heap[b]? := fun b hl hne => Hg8.out.block b hl (fun e => hne (by injection e))
              have hu8 : Below w.heap.size w6 wr := (Below.refl _ _).grown Hg8.out H6.out.bel.size fun j hj => by injection hj with hj; omega
              have hb8 : Below w.heap.size w wr := H6.out.bel.trans hu8
              have hrow8 : wr.ownsRow w.heap.size 30 1 (.slice (some ⟨g3, 0, none⟩) ns.length co) ns.length (ns.map nptr) :=
                H6.out.row3.kept Hg8.out (.inr (fun e => Hne37.out (by injection e)))
              have hnin8 : ∀ n ∈ ns, NIn wr (fun b => w.heap.size ≤ b ∧ b ≠ g3 ∧ b ≠ g7) n ∧ n.ok := fun n hn => ⟨(H6.out.nin n hn).1.keep fun b hS hl => ⟨⟨hS.1, fun e => hS.2.1 (by rw [e]; rfl), fun e => hS.2.2 (by rw [e]; rfl)⟩, hkeep b hl (fun e => hS.2.2 (by rw [e]; rfl))⟩, (H6.out.nin n hn).2⟩
              have hn8 : NIn wr (fun b => w.heap.size ≤ b) (.mk a [] ns) := Hn6.out.keep fun b hS hl => ⟨hS.1, hkeep b hl (fun e => hS.2 (by rw [e]; rfl))⟩
              have hcI2 := inner_any (S := fun b => w.heap.size ≤ b ∧ b ≠ g3 ∧ b ≠ g7) ns wr (some ⟨g3, 0, none⟩) co (PIn.of_own (S := fun _ => True) hrow8 fun _ _ => trivial).1 hnin8 Hcc.out Hhg.out
              have hcN2 := hcI2.mono (R' := fun e w' => ∃ a2, e = .returned (.tuple #[nptr (.mk a2 [] ns), .int .i64 0]) ∧ Hid (NIn w' (fun b => w.heap.size ≤ b) (.mk a2 [] ns)) ∧ Hid (Below wr.heap.size wr w')) fun e w' h => by
                rcases h with ⟨hb, (⟨ht, a2, rfl, ha, hn⟩ | ⟨hn, _⟩)⟩
                · refine ⟨a2, rfl, hn.more fun b hb' hl => ?_, hb⟩
                  rcases hb' with hb' | hb'
                  · exact hb'.1
                  · exact Nat.le_trans hb8.size hb'
                · exact absurd Htog.out hn
              have Hb8 := Lib.hid hb8
              have Hrow8 := Lib.hid hrow8
              have Hn8 := Lib.hid hn8
              have HcN2 := Lib.hid hcN2
              have hlk : ns.length * 8 ≤ 140737488355328 := by omega
              have hcK : ∀ (a : Nat) (S : Nat → Prop) (W : World), NIn W S (.mk a [] ns) → Calls Try.prog 34 #[nptr (.mk a [] ns)] W (KidsP ns W) := fun a S W h => kids_any W h hlk
              have HcK := Lib.hid hcK
              clear hcI2 hcN2 hn8 hnin8 hrow8 hb8 hu8 hkeep hcK Hg8 HR8 Hn6 H6 hR6
              go_upto_region 22 with (go_at_call 33; refine HcN2.out.mono ?_; rintro e w9 ⟨a2, rfl, Hm9, Hb9⟩)
              have Hn9 := Lib.hid (Hn8.out.under Hb9.out)
              go_wp2_with fail
              refine (HcK.out a _ w9 Hn9.out).mono ?_
              rintro e w10 ⟨pa, ca, rfl, hoa, hb10⟩
              have Hoa := Lib.hid hoa
              have Hb10 := Lib.hid hb10
              clear hoa hb10
              go_wp2_with fail
              refine (HcK.out a2 _ w10 (Hm9.out.under Hb10.out)).mono ?_
              rintro e w11 ⟨pb, cb, rfl, hob, hb11⟩
              have Hob := Lib.hid hob
              have Hb11 := Lib.hid hb11
              clear hob hb11
              obtain ⟨ga, rfl, hga, hRa, hca⟩ := row_form Hoa.out hpos
              obtain ⟨gb, rfl, hgb, hRb, hcb⟩ := row_form Hob.out hpos
              obtain ⟨g3', e3, _, _, hc3⟩ := row_form Hrow8.out hpos
              injection e3 with e3
              injection e3 with e3
              subst e3
              have hlta := hRa.lt
              have hlt3 : g3 < wr.heap.size := (Hrow8.out.lt g3 rfl).2
              have hs9 := Hb9.out.size
              have hs10 := Hb10.out.size
              have hs11 := Hb11.out.size
              have hb11 : Below w.heap.size w w11 := bel_tr (bel_tr (bel_tr Hb8.out Hb9.out) Hb10.out) Hb11.out
              have hca11 : ∀ j k, ns[j]? = some k → w11.cell? ⟨ga, j, none⟩ = some (nptr k) := fun j k hk => (World.cell?_of_block (Hb11.out.block _ hlta)).trans (hca j k hk)
              have hc311 : ∀ j k, ns[j]? = some k → w11.cell? ⟨g3, j, none⟩ = some (nptr k) := fun j k hk =>
                (World.cell?_of_block (a := ⟨g3, j, none⟩) (Hb11.out.block g3 (by omega))).trans ((World.cell?_of_block (a := ⟨g3, j, none⟩) (Hb10.out.block g3 (by omega))).trans ((World.cell?_of_block (a := ⟨g3, j, none⟩) (Hb9.out.block g3 hlt3)).trans (hc3 j k hk)))
              have Hca := Lib.hid hca11
              have Hcb := Lib.hid hcb
              have Hc3 := Lib.hid hc311
              have HRa := Lib.hid (hRa.under Hb11.out)
              have hn11 : NIn w11 (fun b => b ≠ ga) (.mk a [] ns) := Hn9.out.keep fun b hS hl => ⟨by omega, (Hb11.out.block b (by omega)).trans (Hb10.out.block b hl)⟩
              have Hn11 := Lib.hid hn11
              clear hn11
              have Hb11' := Lib.hid hb11
              have hgalt : ga < w11.heap.size := by omega
              have hab : gb ≠ ga := by omega
              have h3a : g3 ≠ ga := by omega
              have hwa : w.heap.size ≤ ga := by have := Hb8.out.size; omega
              have Hgalt := Lib.hid hgalt
              have Hab := Lib.hid hab
              have H3a := Lib.hid h3a
              have Hwa := Lib.hid hwa
              clear hca hcb hc3 hca11 hc311 hRa hb11 Hoa Hob Hrow8 Hb8 Hb9 Hb10 Hb11 Hn8 Hn9 Hm9 HcN2 hgalt hab h3a hwa hs9 hs10 hs11 hlta hlt3 hga hgb hRb
              have hneq := run_neq_node
              have heql := run_eql_node
              go_wp2_with fail
              go_loopw [15] (fun v15 wr => ∃ i : Nat, i ≤ ns.length ∧ v15 = .int .i64 i ∧ Hid (w11.grownBy wr (some ga)) ∧ Hid (RowB wr ga 30 ns.length) ∧ Hid (∀ j k, i ≤ j → ns[j]? = some k → wr.cell? ⟨ga, j, none⟩ = some (nptr k))) (fun v15 _ => ns.length - (intOf v15).toNat)
              case atStart => exact ⟨0, by omega, rfl, ⟨rfl, rfl, rfl, Nat.le_refl _, fun _ _ _ => rfl⟩, HRa, fun j k _ => Hca.out j k⟩
              case round =>
                obtain ⟨i, hi12, rfl, Hg12, HR12, Hc12⟩ := hrel
                by_cases hlt : i < ns.length
                · obtain ⟨y, hy⟩ : ∃ y, ns[i]? = some y := ⟨_, List.getElem?_eq_getElem hlt⟩
                  have d0 := Hc12.out i y (Nat.le_refl _) hy
                  have d1 := (World.cell?_of_block (a := ⟨gb, i, none⟩) (Hg12.out.block gb (World.block_lt_of_cell? _ _ (Hcb.out i y hy)) (fun e => Hab.out (by injection e)))).trans (Hcb.out i y hy)
                  have d2 := (World.cell?_of_block (a := ⟨g3, i, none⟩) (Hg12.out.block g3 (World.block_lt_of_cell? _ _ (Hc3.out i y hy)) (fun e => H3a.out (by injection e)))).trans (Hc3.out i y hy)
                  have hf0 := HR12.out.frozen i
                  have Hy := Lib.hid hy
                  clear hy
                  have hi0 : (0 : Int) ≤ (i : Int) := by omega
                  have hi1 : (i : Int) < (ns.length : Int) := by omega
                  go_wp2_with fail
                  go_quiet (fail)
                  go_wp2_with fail
                  have hd3 := World.cell?_drewN
                  go_roundw
                  case measure => simp [intOf]; omega
                  case rel =>
                    refine ⟨i + 1, by omega, by go_num, ?_, ?_, ?_⟩
                    · exact Hg12.out.trans ⟨rfl, rfl, rfl, by simp, fun k _ hk => heap_setCell_other _ ⟨ga, i, none⟩ k _ (fun e => hk (by simp [e]))⟩
                    · exact RowB.setCell (w := wr.drewN nq) HR12.out _ _
                    · intro j k hj hk
                      rw [World.cell?_setCell_other _ _ _ _ (by simp only [ne_eq, Addr.mk.injEq, true_and, and_true]; omega)]
                      exact Hc12.out j k (by omega) hk
                · obtain rfl : i = ns.length := by omega
                  obtain ⟨y, hy⟩ : ∃ y, ns[0]? = some y := ⟨_, List.getElem?_eq_getElem hpos⟩
                  have hbq : Below w.heap.size w wr := (Hb11'.out).grown Hg12.out (by have := Hb11'.out.size; omega) fun j hj => by injection hj with hj; have := Hwa.out; omega
                  have hna : NIn wr (fun b => b ≠ ga) (.mk a [] ns) := Hn11.out.keep fun b hS hl => ⟨hS, Hg12.out.block b hl (fun e => hS (by injection e))⟩
                  have dk := (World.cell?_of_block (a := ⟨g3, 0, none⟩) (Hg12.out.block g3 (World.block_lt_of_cell? _ _ (Hc3.out 0 y hy)) (fun e => H3a.out (by injection e)))).trans (Hc3.out 0 y hy)
                  have Hna := Lib.hid hna
                  have Hy := Lib.hid hy
                  have Hbq := Lib.hid hbq
                  clear hna hy hbq Hn11 Hc12 Hg12 HR12 Hca Hcb Hc3 HRa Hb11' Hgalt Hab H3a Hwa
                  go_wp2_with fail
                  go_region_with (first
                    | (go_at_call 34; refine (HcK.out a _ wr.drew Hna.out.drew).mono ?_; rintro e w12 ⟨pc, cc, rfl, hoc, hb12⟩; have hb12 := below_of_drew hb12; obtain ⟨gc, rfl, hgc, _, hcc'⟩ := row_form hoc hpos; have k0 := hcc' 0 y Hy.out; have k1 := cell_below hb12 dk; have Hb12 := Lib.hid hb12; clear hb12 hoc hcc' hgc)
                    | (go_at_call 29; refine (HK.out w12).mono ?_; rintro e w13 ⟨rfl, hb13⟩; have Hb13 := Lib.hid hb13; clear hb13))
                  all_goals go_wp2_with fail
                  all_goals go_ret
                  all_goals exact ⟨rfl, bel_tr (bel_tr Hbq.out Hb12.out) Hb13.out⟩
end Go.Proofs.Ytajcmpafbcpicaa
