/- tree: sort.Search as kid calls it, kid; leaf and inner. Conditions: what they read lies in memory, and the kids are some that may be. -/
import Derived.Test.YtajcmpafbcpicaaKnown
import Derived.Test.YtajcmpafbcpicaaTreeNd
import Derived.Test.YtajcmpafbcpicaaQuiets
import Derived.Shelf.Abstract
set_option linter.unusedVariables false
set_option linter.unusedSimpArgs false
namespace Go.Proofs.Ytajcmpafbcpicaa
open Go.RowKit

/-- sort.Search over a predicate that parts the places: how many say no. -/
theorem search_any (g : Nat) (cb : Array Value) (n : Nat) (hn : n ≤ 1099511627776) (p : Nat → Bool) (w : World) (eg : ∀ args w, (callFunc g args).run Try.prog w = .ok (.enter g args) w)
    (hf : ∀ (W : World) (i : Nat), Below w.heap.size w W → i < n → Calls Try.prog g (#[.int .i64 i] ++ cb) W fun e w' => e = .returned (.bool (p i)) ∧ Below W.heap.size W w')
    (hm : ∀ i j, i ≤ j → j < n → p i = true → p j = true) :
    Calls Try.prog 133 #[.int .i64 n, .func (.func g) #[] cb] w fun e w' => (∃ c : Nat, e = .returned (.int .i64 c) ∧ c ≤ n ∧ (∀ i, i < c → p i = false) ∧ (∀ i, c ≤ i → i < n → p i = true)) ∧ Below w.heap.size w w' := by
  have Hf := Lib.hid hf
  have Hm := Lib.hid hm
  clear hf hm
  go_enter Try.func133, Try.ntmps133
  go_wp2_with fail
  go_loopg [5, 6, 7] n (fun kx s5 s6 s7 wr => ∃ lo hi : Nat, s5 = .int .i64 lo ∧ s6 = .int .i64 hi ∧ lo ≤ hi ∧ hi ≤ n ∧ hi - lo ≤ kx ∧ Hid (Below w.heap.size w wr) ∧ Hid ((∀ t, t < lo → p t = false) ∧ (∀ t, hi ≤ t → t < n → p t = true)))
  case atStart => exact ⟨0, n, rfl, rfl, Nat.zero_le _, Nat.le_refl _, by omega, Below.refl _ _, fun t ht => absurd ht (Nat.not_lt_zero _), fun t h1 h2 => by omega⟩
  case round =>
    obtain ⟨lo, hi, rfl, rfl, hlh, hin, hg, Hb, I⟩ := hrel
    by_cases hlt : lo < hi
    · have hc := Hf.out wr ((lo + hi) / 2) Hb.out (by omega)
      rw [show (((lo + hi) / 2 : Nat) : Int) = ((lo : Int) + (hi : Int)) / 2 by omega] at hc
      cases hp : p ((lo + hi) / 2) <;> rw [hp] at hc
      · have HP := Lib.hid hp
        have Hc := Lib.hid hc
        clear hp hc
        go_wp2_with fail
        refine Hc.out.mono ?_
        rintro e w1 ⟨rfl, hb1⟩
        have Hb1 := Lib.hid hb1
        clear hb1
        go_wp2_with fail
        go_roundg (hi - ((lo + hi) / 2 + 1))
        case measure => omega
        case rel =>
          refine ⟨(lo + hi) / 2 + 1, hi, by go_num, rfl, by omega, hin, by omega, bel_tr Hb.out Hb1.out, fun t ht => ?_, I.out.2⟩
          cases hq : p t with
          | false => rfl
          | true => have := Hm.out t ((lo + hi) / 2) (by omega) (by omega) hq; rw [HP.out] at this; cases this
      · have HP := Lib.hid hp
        have Hc := Lib.hid hc
        clear hp hc
        go_wp2_with fail
        refine Hc.out.mono ?_
        rintro e w1 ⟨rfl, hb1⟩
        have Hb1 := Lib.hid hb1
        clear hb1
        go_wp2_with fail
        go_roundg ((lo + hi) / 2 - lo)
        case measure => omega
        case rel =>
          refine ⟨lo, (lo + hi) / 2, rfl, by first | rfl | go_num, by omega, by omega, by omega, bel_tr Hb.out Hb1.out, I.out.1, fun t h1 h2 => ?_⟩
          exact Hm.out ((lo + hi) / 2) t h1 h2 HP.out
    · obtain rfl : lo = hi := by omega
      go_wp2_with fail
      go_ret
      exact ⟨⟨lo, rfl, hin, I.out.1, I.out.2⟩, Hb.out⟩

theorem kgt_iff (a b : Key) : (!Op.bytesLess a.toList b.toList && !(a.toList == b.toList)) = klt b a := by
  have h := kle_iff a b
  rw [keq_iff]
  show (!klt a b && !decide (a = b)) = klt b a
  rw [← Bool.not_or, h, Bool.not_not]
/-- kid's closure: is a kid's first key above the key? -/
theorem kid1_any {w : World} {S : Nat → Prop} (ks : List Nd) (k : Key) (ad : Addr) (c b1 b2 : Nat) (i : Nat) (n : Nd) (hi : ks[i]? = some n) (hl : ks.length ≤ 1099511627776) (h1 : w.cell? ⟨b1, 0, none⟩ = some (.slice (some ad) ks.length c)) (h2 : w.cell? ⟨b2, 0, none⟩ = some (.string k))
    (hc : w.cell? (ad.add i) = some (nptr n)) (hn : NIn w S n) (hok : n.ok) :
    Calls Try.prog 158 #[.int .i64 i, .pointer (some ⟨b1, 0, none⟩), .pointer (some ⟨b2, 0, none⟩)] w fun e w' => e = .returned (.bool (klt k (firstKey n.sh.flat))) ∧ ∃ q, w' = w.drewN q := by
  have hlt : i < ks.length := (List.getElem?_eq_some_iff.1 hi).1
  have hi0 : (0 : Int) ≤ (i : Int) := by omega
  have hi1 : (i : Int) < (ks.length : Int) := by omega
  have Hc := Lib.hid (fun (q : Nat) => first_any (w.drewN q) (hn.drewN q) hok)
  clear hi hn hok
  go_enter Try.func158, Try.ntmps158
  go_wp2_with fail
  go_quiet ((go_at_call 47; exact quiet_left (Hc.out _)))
  go_wp2_with fail
  go_ret
  exact ⟨congrArg (fun b => Ending.returned (.bool b)) (kgt_iff _ _), _, rfl⟩

theorem kid_any {w : World} {S Sp : Nat → Prop} (ks : List Nd) (k : Key) (p : Option Addr) (c : Nat) (hp : PIn w Sp ks p) (hn : ∀ n ∈ ks, NIn w S n ∧ n.ok ∧ n.sh.flat ≠ []) (hl : ks.length ≤ 1099511627776) (h0 : 0 < ks.length) (hr : rising (flats (shs ks)) = true) :
    Calls Try.prog 114 #[.slice p ks.length c, .string k] w fun e w' => (∃ i : Nat, e = .returned (.int .i64 i) ∧ KidAt ks k i) ∧ Below w.heap.size w w' := by
  obtain ⟨k0, hk0⟩ : ∃ k0, ks[0]? = some k0 := ⟨_, List.getElem?_eq_getElem h0⟩
  obtain ⟨ad, rfl, _, _⟩ := hp 0 k0 hk0
  have eg : ∀ args w, (callFunc 158 args).run Try.prog w = .ok (.enter 158 args) w := Go.Proofs.enters_of Try.func158 (by kernel_rfl) rfl
  have hmono : ∀ i j, i ≤ j → j < ks.length → (match ks[i]? with | some n => klt k (firstKey n.sh.flat) | none => false) = true → (match ks[j]? with | some n => klt k (firstKey n.sh.flat) | none => false) = true := by
    intro i j hij hj h
    obtain ⟨ni, hi⟩ : ∃ n, ks[i]? = some n := ⟨_, List.getElem?_eq_getElem (by omega)⟩
    obtain ⟨nj, hj'⟩ : ∃ n, ks[j]? = some n := ⟨_, List.getElem?_eq_getElem hj⟩
    rw [hi] at h
    rw [hj']
    simp only at h ⊢
    rcases Nat.eq_or_lt_of_le hij with e | e
    · subst e; rw [hi] at hj'; injection hj' with e; subst e; exact h
    · rw [flats_split hj'] at hr
      obtain ⟨_, h2, h3⟩ := rising_append.1 hr
      obtain ⟨x, hx, ex⟩ := firstKey_mem (hn ni (List.mem_of_getElem? hi)).2.2
      obtain ⟨y, hy, ey⟩ := firstKey_mem (hn nj (List.mem_of_getElem? hj')).2.2
      have hmem : x ∈ flats (shs (ks.take j)) := by
        rw [shs_map, flats_flatMap, List.mem_flatMap]
        refine ⟨ni.sh, List.mem_map_of_mem (List.mem_of_getElem? (i := i) ?_), hx⟩
        rw [List.getElem?_take, if_pos e]; exact hi
      have := h3 x hmem y (List.mem_append_left _ hy)
      rw [ex, ey] at this
      exact klt_trans h this
  have hB := bel_al (bel_new w (.cells #[.slice (some ad) ks.length c] 24)) (.cells #[.string k] 9)
  have hx1 := (Blk.new w 24 #[.slice (some ad) ks.length c]).alloc (.cells #[.string k] 9)
  have hx2 := Blk.new (w.alloc (.cells #[.slice (some ad) ks.length c] 24)) 9 #[.string k]
  rw [World.size_alloc] at hx2
  have hc := search_any 158 #[.pointer (some ⟨w.heap.size, 0, none⟩), .pointer (some ⟨w.heap.size + 1, 0, none⟩)] ks.length hl (fun i => match ks[i]? with | some n => klt k (firstKey n.sh.flat) | none => false)
    ((w.alloc (.cells #[.slice (some ad) ks.length c] 24)).alloc (.cells #[.string k] 9)) eg
    (fun W i hW hi => by
      obtain ⟨n, hn'⟩ : ∃ n, ks[i]? = some n := ⟨_, List.getElem?_eq_getElem hi⟩
      rw [hn']
      simp only
      obtain ⟨ad', e, _, hcell⟩ := hp i n hn'
      injection e with e
      subst e
      have hbW := bel_tr hB hW
      have g1 := (hx1.under hW).cell 0
      have g2 := (hx2.under hW).cell 0
      simp at g1 g2
      exact (kid1_any ks k ad c w.heap.size (w.heap.size + 1) i n hn' hl g1 g2 (cell_below hbW hcell) ((hn n (List.mem_of_getElem? hn')).1.under hbW) (hn n (List.mem_of_getElem? hn')).2.1).mono
        fun e w' ⟨he, q, hq⟩ => ⟨he, by rw [hq]; exact below_drewN_self _ _⟩) hmono
  have Hc := Lib.hid hc
  have Hn := Lib.hid hn
  have HB := Lib.hid hB
  clear hc hn hp hB hx1 hx2 hmono hr hk0 eg
  go_enter Try.func114, Try.ntmps114
  go_wp2_with fail
  refine Hc.out.mono ?_
  rintro e w1 ⟨⟨m, rfl, hm, hlo, hhi⟩, hb1⟩
  have Hb1 := Lib.hid (bel_tr HB.out hb1)
  have Hlo := Lib.hid hlo
  have Hhi := Lib.hid hhi
  clear hlo hhi hb1 Hc
  rcases Nat.eq_zero_or_pos m with e0 | e0
  · subst e0
    go_wp2_with fail
    go_ret
    exact ⟨⟨0, rfl, h0, fun n h _ => by omega, fun j n hj hn => by
      have := Hhi.out j (Nat.zero_le _) (List.getElem?_eq_some_iff.1 hn).1
      rw [hn] at this; exact this⟩, Hb1.out⟩
  · have h1 : (0 : Int) ≤ (m : Int) - 1 := by omega
    have h2 : ((m : Int) - 1) = ((m - 1 : Nat) : Int) := by omega
    have H2 := Lib.hid h2
    clear h2
    go_wp2_with fail
    go_ret
    refine ⟨⟨m - 1, by rw [← H2.out]; rfl, by omega, fun n h hn => ?_, fun j n hj hn => ?_⟩, Hb1.out⟩
    · have := Hlo.out (m - 1) (by omega)
      rw [hn] at this; exact this
    · have := Hhi.out j (by omega) (List.getElem?_eq_some_iff.1 hn).1
      rw [hn] at this; exact this

/-- What comes of leaf: the leaf of those entries. -/
def TLeafPost (es : List En) (w : World) (e : Ending) (w' : World) : Prop :=
  ∃ a, e = .returned (nptr (.mk a es [])) ∧ w.heap.size ≤ a ∧ NIn w' (fun b => w.heap.size ≤ b) (.mk a es []) ∧ Below w.heap.size w w'
theorem tleaf_any (es : List En) (h8 : es.length ≤ 8) (hr : rising es = true) (hf : ∀ e ∈ es, e.2.Fits) (w : World) (S : Nat → Prop) (p : Option Addr) (c : Nat) (h : EIn w S es p) :
    Calls Try.prog 155 #[.slice p es.length c] w (TLeafPost es w) := by
  have hc := (leaf_any es hf (by omega) w S p c h).mono (R' := fun e w' => ∃ a, e = .returned (.tuple #[nptr (.mk a es []), .int .i64 0]) ∧ w.heap.size ≤ a ∧ NIn w' (fun b => w.heap.size ≤ b) (.mk a es []) ∧ Below w.heap.size w w') fun e w' hp => by
    rcases hp with ⟨hb, (⟨_, _, a, rfl, ha, hn⟩ | ⟨h2, _⟩)⟩
    · exact ⟨a, rfl, ha, hn, hb⟩
    · exact absurd ⟨h8, hr⟩ h2
  have Hc := Lib.hid hc
  clear hc h hf hr
  go_enter Try.func155, Try.ntmps155
  go_wp2_with (go_at_call 35; refine Hc.out.mono ?_; rintro e w1 ⟨a, rfl, ha, hn, hb⟩; have Hn := Lib.hid hn; have Hb := Lib.hid hb; clear hn hb)
  go_ret
  exact ⟨a, rfl, ha, Hn.out, Hb.out⟩

/-- What comes of inner: the one node itself, or a new one over all. -/
def TInnerPost (S : Nat → Prop) (ks : List Nd) (w : World) (e : Ending) (w' : World) : Prop :=
  ∃ n : Nd, e = .returned (nptr n) ∧ (ks = [n] ∨ (together ks ∧ ∃ a, n = .mk a [] ks ∧ w.heap.size ≤ a)) ∧ NIn w' (fun b => S b ∨ w.heap.size ≤ b) n ∧ Below w.heap.size w w'
theorem tinner_any {S Sp : Nat → Prop} (ks : List Nd) (w : World) (p : Option Addr) (c : Nat) (hp : PIn w Sp ks p) (hn : ∀ k ∈ ks, NIn w S k ∧ k.ok) (hc : cnts ks ≤ 1099511627776) (hh : ∀ k ∈ ks, k.hgt < 1099511627776) (h1 : ks.length = 1 ∨ together ks) :
    Calls Try.prog 112 #[.slice p ks.length c] w (TInnerPost S ks w) := by
  rcases h1 with h1 | h1
  · obtain ⟨k, rfl⟩ : ∃ k, ks = [k] := by
      match ks, h1 with
      | [k], _ => exact ⟨k, rfl⟩
    obtain ⟨ad, rfl, _, hcell⟩ := hp 0 k rfl
    simp only [add_zero] at hcell
    have Hn := Lib.hid (hn k (by simp)).1
    clear hp hn hc hh h1
    simp only [List.length_singleton]
    go_enter Try.func112, Try.ntmps112
    go_wp2_with fail
    go_ret
    exact ⟨k, rfl, .inl rfl, Hn.out.more fun _ h _ => .inl h, Below.refl _ _⟩
  · have hci := (inner_any ks w p c hp hn hc hh).mono (R' := fun e w' => ∃ a, e = .returned (.tuple #[nptr (.mk a [] ks), .int .i64 0]) ∧ w.heap.size ≤ a ∧ NIn w' (fun b => S b ∨ w.heap.size ≤ b) (.mk a [] ks) ∧ Below w.heap.size w w') fun e w' hq => by
      rcases hq with ⟨hb, (⟨_, a, rfl, ha, hn⟩ | ⟨h2, _⟩)⟩
      · exact ⟨a, rfl, ha, hn, hb⟩
      · exact absurd h1 h2
    have hl2 : ((ks.length : Int) == 1) = false := by
      have h3 := ((Sh.may_inner [] (shs ks) (by rw [shs_map]; simpa using h1.1)).1 h1.2).2.1
      have hlen : (shs ks).length = ks.length := by simp [shs_map]
      rw [beq_eq_false_iff_ne]; omega
    have Hci := Lib.hid hci
    have H1 := Lib.hid h1
    clear hci hp hn hc hh h1
    go_enter Try.func112, Try.ntmps112
    go_wp2_with (go_at_call 33; refine Hci.out.mono ?_; rintro e w1 ⟨a, rfl, ha, hn, hb⟩; have Hn := Lib.hid hn; have Hb := Lib.hid hb; clear hn hb)
    go_ret
    exact ⟨_, rfl, .inr ⟨H1.out, a, rfl, ha⟩, Hn.out, Hb.out⟩
end Go.Proofs.Ytajcmpafbcpicaa
