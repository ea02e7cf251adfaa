/- (tree.Tree).Put at a tree of no node, or of one leaf. Conditions: what it reads lies in memory and fits. -/
import Derived.Test.YtajcmpafbcpicaaPut1
set_option linter.unusedVariables false
set_option linter.unusedSimpArgs false
namespace Go.Proofs.Ytajcmpafbcpicaa
open Go.RowKit

def tval (np : Value) : Value := .agg #[np]
def PutPost (S : Nat → Prop) (k : Key) (v : V) (fl : List En) (w : World) (e : Ending) (w' : World) : Prop :=
  ∃ n : Nd, e = .returned (.agg #[nptr n]) ∧ n.sh.flat = insE k v fl ∧ n.ok ∧ w.heap.size ≤ n.addr ∧ NIn w' (fun b => S b ∨ w.heap.size ≤ b) n ∧ Below w.heap.size w w'

theorem PutOk.good {B h : Nat} {k : Key} {v : V} {fl : List En} {ms : List Nd} (p : PutOk B k v fl h ms) (hr : rising fl = true) : Good h ms :=
  ⟨p.all, by rw [p.flat]; exact insE_rising hr⟩

/-- The node over what came of a put. -/
theorem tinner_of {B B0 hh : Nat} {k : Key} {v : V} {fl : List En} {ms : List Nd} {w : World} {S : Nat → Prop} {p : Option Addr} {c : Nat} (h : PutOk B k v fl hh ms) (hr : rising fl = true) (hlen : fl.length < 1099511627776) (hhl : hh < 1099511627776)
    (ho : w.ownsRow B0 30 1 (.slice p ms.length c) ms.length (ms.map nptr)) (hn : ∀ m ∈ ms, NIn w S m) (hB : B ≤ w.heap.size) :
    Calls Try.prog 112 #[.slice p ms.length c] w fun e w' => ∃ n : Nd, e = .returned (nptr n) ∧ n.sh.flat = insE k v fl ∧ n.ok ∧ B ≤ n.addr ∧ NIn w' (fun b => S b ∨ w.heap.size ≤ b) n ∧ Below w.heap.size w w' := by
  have hg := h.good hr
  have hl : (insE k v fl).length ≤ fl.length + 1 := by rw [insE_length]; split <;> omega
  refine (tinner_any ms w p c (PIn.of_own (S := fun _ => True) ho fun _ _ => trivial).1 (fun m hm => ⟨hn m hm, (h.all m hm).1⟩) (by unfold cnts; rw [h.flat]; omega) (fun m hm => by rw [(h.all m hm).2.2]; exact hhl) ?_).mono ?_
  · rcases h.one with h1 | h2
    · exact .inl h1
    · exact .inr (hg.together (by omega) (by omega))
  · rintro e w' ⟨n, rfl, hc, hn', hb⟩
    refine ⟨n, rfl, ?_, ?_, ?_, hn', hb⟩
    · rcases hc with rfl | ⟨ht, a, rfl, ha⟩
      · have := h.flat; simpa [shs, flats] using this
      · rw [← h.flat]; exact Nd.flat_kids (n := .mk a [] ms) (by have := ht.1; simpa [Nd.kids] using this)
    · rcases hc with rfl | ⟨ht, a, rfl, ha⟩
      · exact (h.all n (by simp)).1
      · have := ht.2; simpa [Nd.ok, Nd.sh] using this
    · rcases hc with rfl | ⟨ht, a, rfl, ha⟩
      · exact h.new n (by simp)
      · exact Nat.le_trans hB ha

theorem tput_of (np : Value) (fl : List En) (hh : Nat) (hhl : hh < 1099511627776) (hr : rising fl = true) (hlen : fl.length < 1099511627776) (k : Key) (v : V) (w : World) (S : Nat → Prop) (pl po : Option Addr) (cl co : Nat) (hS : ∀ b, S b → b < w.heap.size)
    (hP : ∀ W, Below w.heap.size w W → Calls Try.prog 113 #[np, .agg #[.string k, .int .i64 v.kind, .bool v.bool, .int .i64 v.num, .string v.text, .slice pl v.list.length cl, .slice po v.obj.length co]] W (NodesPost S (PutOk W.heap.size k v fl hh) W)) :
    Calls Try.prog 52 #[.agg #[np], .string k, .agg #[.int .i64 v.kind, .bool v.bool, .int .i64 v.num, .string v.text, .slice pl v.list.length cl, .slice po v.obj.length co]] w (PutPost S k v fl w) := by
  have hb0 := bel_new w (.cells #[np] 61)
  have hb1 := bel_al hb0 (.cells #[.int .i64 v.kind, .bool v.bool, .int .i64 v.num, .string v.text, .slice pl v.list.length cl, .slice po v.obj.length co] 42)
  have hb2 := bel_al hb1 (.cells #[.pointer none] 61)
  have Hb2 := Lib.hid hb2
  have Hp := Lib.hid (hP _ hb2)
  have B2 := Lib.hid (Blk.new ((w.alloc (.cells #[np] 61)).alloc (.cells #[.int .i64 v.kind, .bool v.bool, .int .i64 v.num, .string v.text, .slice pl v.list.length cl, .slice po v.obj.length co] 42)) 61 #[.pointer none])
  clear hb0 hb1 hb2 hP
  go_enter Try.func52, Try.ntmps52
  go_wp2_with (first
    | (go_at_call 113; refine Hp.out.mono ?_; rintro e w1 ⟨ms, p1, c1, rfl, h1, h2, h3, h4⟩; have H1 := Lib.hid h1; have H2 := Lib.hid h2; have H3 := Lib.hid h3; have H4 := Lib.hid h4; have Hc := Lib.hid (tinner_of h1 hr hlen hhl h2 h3 h4.size); clear h1 h2 h3 h4)
    | (go_at_call 112; refine Hc.out.mono ?_; rintro e w2 ⟨n, rfl, h5, h6, h7, h8, h9⟩; have B3 := Lib.hid ((B2.out.under H4.out).under h9); have z0 := B3.out.cell 0; have f0 := B3.out.frozen 0; simp at z0 f0; have H5 := Lib.hid (And.intro h5 (And.intro h6 (And.intro h7 (And.intro h8 h9)))); clear h5 h6 h7 h8 h9))
  have hb := H4.out
  have hs := hb.size
  have hbl := bel_tr Hb2.out H4.out
  obtain ⟨h5, h6, h7, h8, h9⟩ := H5.out
  have hs2 := hbl.size
  have hfin : Blk (w2.setCell ⟨w.heap.size + 2, 0, none⟩ (nptr n)) (w.heap.size + 2) 61 #[nptr n] := by simpa using B3.out.set_ 0 (nptr n)
  refine bodyPost_ret (results_cell1 (cs := [nptr n]) rfl rfl (Try.isAgg61 _) (Try.sizeOf61 _) hfin.cells) rfl ?_
  have hbw := (bel_tr hbl h9).setCell (p := ⟨w.heap.size + 2, 0, none⟩) (Nat.le_add_right _ _) (nptr n)
  refine ⟨n, rfl, h5, h6, Nat.le_trans Hb2.out.size h7, h8.keep fun b hb hl => ?_, hbw⟩
  simp only [World.size_alloc] at hb hs
  refine ⟨?_, Below.heap_setCell _ _ _ _ ?_⟩
  · rcases hb with (h | h) | h
    · exact .inl h
    · exact .inr (by omega)
    · exact .inr (by omega)
  · simp only
    rcases hb with (h | h) | h
    · have := hS b h; omega
    · omega
    · omega

/-- Put at no node. -/
theorem tput_nil (k : Key) (v : V) (hv : v.Fits) (w : World) (Sv : Nat → Prop) (pl po : Option Addr) (cl co : Nat) (hvin : VIn w Sv v pl po) :
    Calls Try.prog 52 #[.agg #[.pointer none], .string k, .agg #[.int .i64 v.kind, .bool v.bool, .int .i64 v.num, .string v.text, .slice pl v.list.length cl, .slice po v.obj.length co]] w (PutPost (fun _ => False) k v [] w) := by
  refine tput_of _ [] 0 (by decide) rfl (by decide) k v w (fun _ => False) pl po cl co (fun _ h => h.elim) fun W hW => ?_
  exact put_leaf (.pointer none) [] rfl (by decide) (fun e he => by cases he) k v hv W Sv (fun _ => False) pl po cl co (hvin.keep fun b hb hl => ⟨hb, hW.block b hl⟩)
    (fun W' _ => height_nil W') (fun W' _ => (entries_nil W').mono fun e w' h => by obtain ⟨rfl, rfl⟩ := h; exact ⟨none, 0, rfl, EOwn.nil _ _ _, Below.refl _ _⟩)

/-- Put at one leaf. -/
theorem tput_leaf (n : Nd) (hk : n.kids = []) (hok : n.ok) (hf : n.Fits) (k : Key) (v : V) (hv : v.Fits) (w : World) (S Sv : Nat → Prop) (hn : NIn w S n) (pl po : Option Addr) (cl co : Nat) (hvin : VIn w Sv v pl po) (hS : ∀ b, S b → b < w.heap.size) :
    Calls Try.prog 52 #[.agg #[nptr n], .string k, .agg #[.int .i64 v.kind, .bool v.bool, .int .i64 v.num, .string v.text, .slice pl v.list.length cl, .slice po v.obj.length co]] w (PutPost S k v n.sh.flat w) := by
  obtain ⟨a, es, ks⟩ := n
  simp only [Nd.kids] at hk
  subst hk
  have hfl : (Nd.mk a es []).sh.flat = es := by simp [Nd.sh, shs, Sh.flat]
  have hh : (Nd.mk a es []).hgt = 0 := by simp [Nd.hgt, Nd.sh, shs, Sh.height]
  have hm : es.length ≤ 8 ∧ rising es = true := (Sh.may_leaf es).1 (by simpa [Nd.ok, Nd.sh, shs] using hok)
  rw [hfl]
  refine tput_of _ es 0 (by decide) hm.2 (by omega) k v w S pl po cl co hS fun W hW => ?_
  exact put_leaf (nptr (.mk a es [])) es hm.2 hm.1 hf.ents.2 k v hv W Sv S pl po cl co (hvin.keep fun b hb hl => ⟨hb, hW.block b hl⟩)
    (fun W' hb => by
      have h := height_any W' ((hn.under hW).under hb)
      rw [hh] at h
      exact h)
    (fun W' hb => entries_any W' ((hn.under hW).under hb) hf)
end Go.Proofs.Ytajcmpafbcpicaa
