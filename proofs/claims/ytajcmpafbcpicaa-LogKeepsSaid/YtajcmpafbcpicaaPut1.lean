/- tree.put at a leaf, or at nil. Conditions: what it reads lies in memory and fits; the entries rise and are eight at most. -/
import Derived.Test.YtajcmpafbcpicaaTree2
import Derived.Test.YtajcmpafbcpicaaTree3
import Derived.Test.YtajcmpafbcpicaaInsert2
import Derived.Test.YtajcmpafbcpicaaStore7
import Derived.Test.YtajcmpafbcpicaaPutLaws
set_option linter.unusedVariables false
set_option linter.unusedSimpArgs false
namespace Go.Proofs.Ytajcmpafbcpicaa
open Go.RowKit

theorem madeE_put {B B' : Nat} {k : Key} {v : V} {es : List En} {ms : List Nd} (hr : rising es = true) (h8 : es.length ≤ 8) (h : MadeE B (insE k v es) ms) (hB : B' ≤ B) : PutOk B' k v es 0 ms := by
  have hl := insE_length (k := k) (v := v) (l := es)
  have hl9 : (insE k v es).length ≤ 9 := by rw [hl]; split <;> omega
  have hri := insE_rising (k := k) (v := v) hr
  have hok : ∀ (a : Nat) (l : List En), rising l = true → l.length ≤ 8 → l ≠ [] → (Nd.mk a l []).ok ∧ (Nd.mk a l []).sh.flat ≠ [] ∧ (Nd.mk a l []).hgt = 0 := fun a l h1 h2 h3 => by
    refine ⟨?_, by simpa [Nd.sh, shs, Sh.flat] using h3, by simp [Nd.hgt, Nd.sh, shs, Sh.height]⟩
    show (Nd.mk a l []).sh.may = true
    simp only [Nd.sh, shs]
    exact (Sh.may_leaf _).2 ⟨h2, h1⟩
  rcases h with ⟨h1, a, rfl, ha⟩ | ⟨h1, a, b, rfl, ha, hb⟩
  · refine ⟨.inl rfl, by simp [shs, flats, Nd.sh, Sh.flat], fun m hm => ?_, fun m hm => ?_⟩
    · simp at hm; subst hm; exact hok a _ hri h1 insE_ne
    · simp at hm; subst hm; simp only [Nd.addr]; omega
  · have e : insE k v es = (insE k v es).take 4 ++ (insE k v es).drop 4 := (List.take_append_drop 4 _).symm
    have hsp := hri
    rw [e] at hsp
    obtain ⟨r1, r2, _⟩ := rising_append.1 hsp
    refine ⟨.inr rfl, ?_, fun m hm => ?_, fun m hm => ?_⟩
    · simp [shs, flats, Nd.sh, Sh.flat]
    · simp at hm
      rcases hm with rfl | rfl
      · exact hok a _ r1 (by rw [List.length_take]; omega) (fun e => by have h0 := congrArg List.length e; rw [List.length_take] at h0; simp only [List.length_nil] at h0; omega)
      · exact hok b _ r2 (by rw [List.length_drop]; omega) (fun e => by have h0 := congrArg List.length e; rw [List.length_drop] at h0; simp only [List.length_nil] at h0; omega)
    · simp at hm
      rcases hm with rfl | rfl
      · simp only [Nd.addr]; omega
      · simp only [Nd.addr]; omega

theorem set7_below {w w1 : World} {g o : Nat} {c0 c1 c2 c3 c4 c5 c6 : Value} (h : Below w.heap.size w w1) (hg : w.heap.size ≤ g) : Below w.heap.size w (set7 w1 g o c0 c1 c2 c3 c4 c5 c6) :=
  ((((((h.setCell (p := ⟨g, o, none⟩) hg _).setCell (p := ⟨g, o + 1, none⟩) hg _).setCell (p := ⟨g, o + 2, none⟩) hg _).setCell (p := ⟨g, o + 3, none⟩) hg _).setCell (p := ⟨g, o + 4, none⟩) hg _).setCell (p := ⟨g, o + 5, none⟩) hg _).setCell (p := ⟨g, o + 6, none⟩) hg _
theorem insE_fits {k : Key} {v : V} {es : List En} (hf : ∀ e ∈ es, e.2.Fits) (hv : v.Fits) : ∀ e ∈ insE k v es, e.2.Fits := by
  intro e he
  rcases insE_mem he with rfl | he
  · exact hv
  · exact hf e he
theorem nodes_widen {S S' : Nat → Prop} {P P' : List Nd → Prop} {w W : World} {e : Ending} {w' : World} (h : NodesPost S' P W e w') (hb : Below w.heap.size w W) (hP : ∀ ms, P ms → P' ms) (hS : ∀ b, S' b → S b ∨ w.heap.size ≤ b) : NodesPost S P' w e w' := by
  obtain ⟨ms, p, c, rfl, h1, h2, h3, h4⟩ := h
  refine ⟨ms, p, c, rfl, hP ms h1, own_base h2 hb.size, fun m hm => (h3 m hm).more fun b hb' hl => ?_, bel_tr hb h4⟩
  rcases hb' with h | h
  · exact hS b h
  · exact .inr (Nat.le_trans hb.size h)
theorem own3_base {w : World} {B B' : Nat} {S : Nat → Prop} {v : Value} {es : List En} (h : EOwn w B S v es) (hb : B' ≤ B) : EOwn w B' (fun _ => True) v es := by
  obtain ⟨cells, h1, h2⟩ := h
  exact ⟨cells, own_base h1 hb, h2.imp fun x pl po h => h.more fun b hb _ => ⟨trivial, hb.2⟩⟩
set_option maxRecDepth 100000 in
set_option maxHeartbeats 8000000 in
theorem put_leaf (np : Value) (es : List En) (hr : rising es = true) (h8 : es.length ≤ 8) (hf : ∀ e ∈ es, e.2.Fits) (k : Key) (v : V) (hv : v.Fits) (w : World) (Sv S : Nat → Prop) (pl po : Option Addr) (cl co : Nat) (hvin : VIn w Sv v pl po)
    (hH : ∀ W, Below w.heap.size w W → Calls Try.prog 40 #[np] W fun e w' => e = .returned (.int .i64 0) ∧ W = w')
    (hE : ∀ W, Below w.heap.size w W → Calls Try.prog 36 #[np] W (OwnPost es W)) :
    Calls Try.prog 113 #[np, .agg #[.string k, .int .i64 v.kind, .bool v.bool, .int .i64 v.num, .string v.text, .slice pl v.list.length cl, .slice po v.obj.length co]] w (NodesPost S (PutOk w.heap.size k v es 0) w) := by
  have hb0 := bel_new w (.cells #[.string k, .int .i64 v.kind, .bool v.bool, .int .i64 v.num, .string v.text, .slice pl v.list.length cl, .slice po v.obj.length co] 44)
  have B0 := Lib.hid (Blk.new w 44 #[.string k, .int .i64 v.kind, .bool v.bool, .int .i64 v.num, .string v.text, .slice pl v.list.length cl, .slice po v.obj.length co])
  have Hb0 := Lib.hid hb0
  have HH := Lib.hid hH
  have HE := Lib.hid hE
  have Hr := Lib.hid hr
  have Hf := Lib.hid hf
  have Hv := Lib.hid hv
  have Hvin := Lib.hid hvin
  clear hb0 hH hE hr hf hv hvin
  go_enter Try.func113, Try.ntmps113
  go_upto_region 4 with (first
    | (go_at_call 40; refine (HH.out _ Hb0.out).mono ?_; rintro e w1 ⟨rfl, rfl⟩)
    | (go_at_call 36; refine (HE.out _ Hb0.out).mono ?_; rintro e w2 ⟨p2, c2, rfl, ho2, hb2⟩; have Ho2 := Lib.hid ho2; have B2 := Lib.hid (B0.out.under hb2); have k2 := B2.out.cell 0; have Hb2 := Lib.hid (bel_tr Hb0.out hb2); have Hs2 := Lib.hid hb2.size; simp at k2; clear ho2 hb2)
    | (go_at_call 115; refine (spot_any es k (by omega) Hr.out w2 (fun b => w.heap.size + 1 ≤ b) p2 c2 (Ho2.out.ein (fun b hb _ => by simpa using hb) (fun b hb _ => by simpa using hb))).mono ?_; rintro e w3 ⟨rfl, hb3⟩; have Ho3 := Lib.hid (Ho2.out.under hb3); have B3 := Lib.hid (B2.out.under hb3); have Hb3 := Lib.hid (bel_tr Hb2.out hb3); have Hs3 := Lib.hid hb3.size; clear hb3))
  clear k2 B2 Ho2 HH HE
  have c0 := B3.out.cell 0
  have c1 := B3.out.cell 1
  have c2' := B3.out.cell 2
  have c3 := B3.out.cell 3
  have c4 := B3.out.cell 4
  have c5 := B3.out.cell 5
  have c6 := B3.out.cell 6
  simp at c0 c1 c2' c3 c4 c5 c6
  have hs2 := Hs2.out
  simp only [World.size_alloc] at hs2
  have hs3 := Hs3.out
  cases hg : getE k es with
  | some u =>
    have hlt : rankE k es < es.length := rankE_lt (by rw [hg]; simp)
    have Hins := Lib.hid (insE_has (v := v) (k := k) (l := es) (by rw [hg]; simp))
    have hl8 : (insE k v es).length = es.length := by rw [Hins.out, List.length_set]
    obtain ⟨p', c', hv', hrow, _⟩ := own_form Ho3.out.choose_spec.1
    injection hv' with e1 e2 e3
    subst e1
    subst e3
    obtain ⟨g, e4, hgb, hrb⟩ := hrow (by omega)
    subst e4
    have hfz := hrb.frozen
    obtain ⟨s0, z0⟩ := hrb.some (j := rankE k es * 7) (by omega)
    obtain ⟨s1, z1⟩ := hrb.some (j := rankE k es * 7 + 1) (by omega)
    obtain ⟨s2, z2⟩ := hrb.some (j := rankE k es * 7 + 2) (by omega)
    obtain ⟨s3, z3⟩ := hrb.some (j := rankE k es * 7 + 3) (by omega)
    obtain ⟨s4, z4⟩ := hrb.some (j := rankE k es * 7 + 4) (by omega)
    obtain ⟨s5, z5⟩ := hrb.some (j := rankE k es * 7 + 5) (by omega)
    obtain ⟨s6, z6⟩ := hrb.some (j := rankE k es * 7 + 6) (by omega)
    have hi0 : (0 : Int) ≤ (rankE k es : Int) := by omega
    have hi1 : (rankE k es : Int) < (es.length : Int) := by omega
    have Hg := Lib.hid hg
    have Hl8 := Lib.hid hl8
    clear hg hrow hrb hl8
    simp only [Option.isSome_some]
    go_upto_region 7 with fail
    have hst : EOwn (set7 w3 g (rankE k es * 7) (.string k) (.int .i64 v.kind) (.bool v.bool) (.int .i64 v.num) (.string v.text) (.slice pl v.list.length cl) (.slice po v.obj.length co)) (w.heap.size + 1) (fun b => True) (.slice (some ⟨g, 0, none⟩) es.length c2) (insE k v es) := by
      rw [Hins.out]
      refine EOwn.store (own3_base Ho3.out (by simp)) rfl hlt ?_
      simp only [World.size_alloc] at hgb
      exact Hvin.out.keep fun b _ hl => ⟨⟨trivial, by omega⟩, Hb3.out.block b hl⟩
    have hgw : w.heap.size ≤ g := by simp only [World.size_alloc] at hgb; omega
    have hbst : Below w.heap.size w (set7 w3 g (rankE k es * 7) (.string k) (.int .i64 v.kind) (.bool v.bool) (.int .i64 v.num) (.string v.text) (.slice pl v.list.length cl) (.slice po v.obj.length co)) := set7_below Hb3.out hgw
    have hcm := madeE_one (insE k v es) (by rw [Hl8.out]; exact h8) (insE_rising Hr.out) (insE_fits Hf.out Hv.out) _ (fun _ => True) (some ⟨g, 0, none⟩) c2 (hst.ein (fun _ _ _ => trivial) (fun _ _ _ => trivial))
    rw [Hl8.out] at hcm
    have Hcm := Lib.hid (hcm.mono (R' := NodesPost S (PutOk w.heap.size k v es 0) w) fun e w' h => nodes_widen (S := S) h hbst (fun ms hm => madeE_put Hr.out h8 hm hbst.size) (fun b h => h.elim))
    clear hst hbst hcm hgw
    go_wp2_with (go_at_call 154; refine Hcm.out.mono ?_; rintro e w9 ⟨ms, p9, c9, rfl, h91, h92, h93, h94⟩; have H9 := Lib.hid (And.intro h91 (And.intro h92 (And.intro h93 h94))); clear h91 h92 h93 h94)
    go_ret
    exact ⟨ms, p9, c9, rfl, H9.out⟩
  | none =>
    have Hins := Lib.hid (insE_new (v := v) (k := k) (l := es) hg)
    have hrk := rankE_le k es
    have hl9 : (insE k v es).length = es.length + 1 := by rw [insE_length, hg]; rfl
    have Hl9 := Lib.hid hl9
    obtain ⟨cells, hoc, hec⟩ := Ho3.out
    have hgl : ∀ g, (Value.slice p2 es.length c2).ownBlock = some g → w.heap.size + 1 ≤ g ∧ g < w3.heap.size := fun g h => by have := hoc.lt g h; simpa using this
    have Hgl := Lib.hid hgl
    have hbn := bel_new w3 (.cells #[.string k, .int .i64 v.kind, .bool v.bool, .int .i64 v.num, .string v.text, .slice pl v.list.length cl, .slice po v.obj.length co] 44)
    have hci := insert_any _ es.length c2 (rankE k es) p2 cells (ecells k v pl cl po co) (by omega) hrk _ (own_under hoc hbn) hec.one w3.heap.size (Blk.new w3 44 _) (fun e => by have := hgl _ e; omega) rfl (fun u hu => by simp at hu; rcases hu with rfl | rfl | rfl | rfl | rfl | rfl | rfl <;> rfl) (by simp; omega)
    have Hci := Lib.hid hci
    have Hec := Lib.hid hec
    have Hbn := Lib.hid hbn
    have hp0 : (rankE k es : Int) ≤ (es.length : Int) := by omega
    clear hci hec hbn hoc hgl hg hl9
    simp only [Option.isSome_none]
    go_upto_region 7 with (go_at_call 153; refine Hci.out.mono ?_; rintro e w5 ⟨v5, rfl, hov, hgr, hat⟩; have Hov := Lib.hid hov; have Hgr := Lib.hid hgr; have Hat := Lib.hid hat; clear hov hgr hat)
    have hb35 : ∀ b, b < w3.heap.size → (Value.slice p2 es.length c2).ownBlock ≠ some b → w5.heap[b]? = w3.heap[b]? := fun b hl hne =>
      (Hgr.out.block b (by simp; omega) (fun e => hne e.symm)).trans (Hbn.out.block b hl)
    have hnew : ∀ b, b < w3.heap.size → (Value.slice p2 es.length c2).ownBlock ≠ some b → v5.ownBlock ≠ some b := fun b hl hne e => by
      rcases Hat.out with e' | ⟨h, e', hh⟩
      · rw [e'] at e; exact hne e
      · rw [e'] at e; injection e with e; simp at hh; omega
    have hcs := ECells.ins (R := VIn w5 fun b => True ∧ v5.ownBlock ≠ some b) (k := k) (x := v) (pl := pl) (po := po) (cl := cl) (co := co)
      (Hvin.out.keep fun b _ hl => by
        have hz := Hb3.out.size
        have hne : (Value.slice p2 es.length c2).ownBlock ≠ some b := fun e => by have := (Hgl.out b e).1; omega
        exact ⟨⟨trivial, hnew b (by omega) hne⟩, (hb35 b (by omega) hne).trans (Hb3.out.block b hl)⟩)
      (Hec.out.imp fun x pl po h => h.keep fun b hb hl => ⟨⟨trivial, hnew b hl hb.2⟩, hb35 b hl hb.2⟩) (rankE k es) hrk
    rw [← Hins.out] at hcs
    have hown5 : EOwn w5 (w.heap.size + 1) (fun _ => True) v5 (insE k v es) := ⟨_, by rw [Hl9.out]; exact own_base Hov.out (by simp), hcs⟩
    have hbe5 : Below w.heap.size w w5 := by
      have h4 := bel_tr Hb3.out Hbn.out
      exact h4.grown Hgr.out h4.size fun j hj => by have := (Hgl.out j hj).1; omega
    obtain ⟨p5, c5, hv5⟩ := hown5.form
    subst hv5
    have hein5 : EIn w5 (fun _ => True) (insE k v es) p5 := hown5.ein (fun _ _ _ => trivial) (fun _ _ _ => trivial)
    have hcm : Calls Try.prog 154 #[.slice p5 (insE k v es).length c5, .func (.func 155) #[] #[]] w5 (NodesPost (fun _ => False) (MadeE w5.heap.size (insE k v es)) w5) := by
      by_cases h9 : (insE k v es).length ≤ 8
      · exact madeE_one (insE k v es) h9 (insE_rising Hr.out) (insE_fits Hf.out Hv.out) w5 (fun _ => True) p5 c5 hein5
      · obtain ⟨p', c', hv', hrow, _⟩ := own_form hown5.choose_spec.1
        injection hv' with e1 e2 e3
        subst e1
        obtain ⟨g, e4, _⟩ := hrow (by omega)
        subst e4
        exact madeE_two (insE k v es) (by omega) (by rw [Hl9.out]; omega) (insE_rising Hr.out) (insE_fits Hf.out Hv.out) w5 (fun _ => True) g c5 hown5.cap_ hein5
    have Hcm := Lib.hid (hcm.mono (R' := NodesPost S (PutOk w.heap.size k v es 0) w) fun e w' h => nodes_widen (S := S) h hbe5 (fun ms hm => madeE_put Hr.out h8 hm hbe5.size) (fun b h => h.elim))
    clear hcm hein5 hbe5 hown5 hcs hnew hb35
    go_wp2_with (go_at_call 154; refine Hcm.out.mono ?_; rintro e w9 ⟨ms, p9, c9, rfl, h91, h92, h93, h94⟩; have H9 := Lib.hid (And.intro h91 (And.intro h92 (And.intro h93 h94))); clear h91 h92 h93 h94)
    go_ret
    exact ⟨ms, p9, c9, rfl, H9.out⟩
end Go.Proofs.Ytajcmpafbcpicaa
