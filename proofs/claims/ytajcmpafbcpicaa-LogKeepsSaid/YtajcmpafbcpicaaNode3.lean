/- Shape of a node: its shape, in memory of the call's own. Conditions: the node lies in memory and fits. -/
import Derived.Test.YtajcmpafbcpicaaNode2
import Derived.Test.YtajcmpafbcpicaaKRow
import Derived.Test.YtajcmpafbcpicaaRef1
import Derived.Test.YtajcmpafbcpicaaSound
import Derived.Test.YtajcmpafbcpicaaKnown
import Derived.Deep.RegionLaw
import Derived.Deep.AppendLies
set_option linter.unusedVariables false
set_option linter.unusedSimpArgs false
namespace Go.Proofs.Ytajcmpafbcpicaa
open Go.RowKit

theorem infoS : (Try.prog.info? 28).map (fun i => (i.zero.map fun z => z.cells.size, i.size, i.bytes)) = some (some 2, 2, 48) := by kernel_rfl

theorem row_form {w : World} {base : Nat} {ns : List Nd} {p : Option Addr} {c : Nat} (h : w.ownsRow base 30 1 (.slice p ns.length c) ns.length (ns.map nptr)) (h0 : 0 < ns.length) :
    ∃ g, p = some ⟨g, 0, none⟩ ∧ base ≤ g ∧ RowB w g 30 ns.length ∧ ∀ j k, ns[j]? = some k → w.cell? ⟨g, j, none⟩ = some (nptr k) := by
  obtain ⟨p', c', e, h1, h2⟩ := own_form h
  injection e with e1 e2 e3
  obtain ⟨g, e4, h3, h4⟩ := h1 h0
  refine ⟨g, e1.trans e4, h3, by simpa using h4, fun j k hj => ?_⟩
  have := h2 g e4 j (nptr k) (by rw [List.getElem?_map, hj]; rfl)
  rwa [add_lit, Nat.zero_add] at this
def ShapePost (n : Nd) (w : World) (e : Ending) (w' : World) : Prop :=
  ∃ pe ce pk ck, e = .returned (.agg #[.slice pe n.sh.es.length ce, .slice pk n.sh.kids.length ck]) ∧ SIn w' (fun b => w.heap.size ≤ b) n.sh pe pk ∧ Below w.heap.size w w'
/-- What stands while the kids are gathered: the box, the entries, the kids so far. -/
structure ShInv (w : World) (es : List En) (pe : Option Addr) (ce : Nat) (vk : Value) (ks : List Sh) (wr : World) : Prop where
  blk : Blk wr w.heap.size 28 #[.slice pe es.length ce, vk]
  own : KOwn wr (w.heap.size + 1) (fun b => w.heap.size + 1 ≤ b) vk ks
  ein : EIn wr (fun b => w.heap.size + 1 ≤ b ∧ vk.ownBlock ≠ some b) es pe
  bel : Below w.heap.size w wr

theorem own_base {w : World} {base base' : Nat} {e : TypeId} {size n : Nat} {v : Value} {xs : List Value} (h : w.ownsRow base e size v n xs) (hb : base' ≤ base) : w.ownsRow base' e size v n xs := by
  refine ⟨h.1, ?_⟩
  rcases h.2 with h2 | ⟨g, cap, cur, rfl, hg, r⟩
  · exact .inl h2
  · exact .inr ⟨g, cap, cur, rfl, Nat.le_trans hb hg, r⟩
theorem own_own_ne {w : World} {base base' : Nat} {e e' : TypeId} {size size' n n' : Nat} {v v' : Value} {xs xs' : List Value} (h : w.ownsRow base e size v n xs) (h' : w.ownsRow base' e' size' v' n' xs') (hne : e ≠ e') : ∀ g, v.ownBlock = some g → v'.ownBlock ≠ some g := by
  intro g hg
  rcases h.2 with ⟨rfl, _⟩ | ⟨g1, cap, cur, rfl, _, hh, _⟩
  · cases hg
  · have e1 : g1 = g := by simpa [Value.ownBlock] using hg
    subst e1
    exact own_blk_ne h' (cs := cur) hh (fun e => hne e.symm)

theorem shape_push {w wr w3 w4 : World} {es : List En} {pe : Option Addr} {ce i : Nat} {p' : Option Addr} {c' : Nat} {ks : List Nd} {y : Nd} {pe3 pk3 : Option Addr} {ce3 ck3 gg cap : Nat} {cells : List Value}
    (hr : ShInv w es pe ce (.slice p' i c') ((ks.take i).map Nd.sh) wr) (hy : ks[i]? = some y) (hli : ((ks.take i).map Nd.sh).length = i) (hb3 : Below wr.heap.size wr w3) (hs3 : SIn w3 (fun b => wr.heap.size ≤ b) y.sh pe3 pk3)
    (hoc : w3.ownsRow (w.heap.size + 1) 28 2 (.slice p' i c') i cells) (hec : KCells (SIn w3 fun b => w.heap.size + 1 ≤ b ∧ (Value.slice p' i c').ownBlock ≠ some b) ((ks.take i).map Nd.sh) cells)
    (hown : w4.ownsRow (w.heap.size + 1) 28 2 (.slice (some ⟨gg, 0, none⟩) (i + 1) cap) (i + 1) (cells ++ [.slice pe3 y.sh.es.length ce3, .slice pk3 y.sh.kids.length ck3]))
    (hg : (w3.alloc (.cells #[.slice pe3 y.sh.es.length ce3, .slice pk3 y.sh.kids.length ck3] 28)).grownBy w4 (Value.slice p' i c').ownBlock)
    (hat : (Value.slice p' i c').ownBlock = some gg ∨ gg = w3.heap.size + 1) :
    ShInv w es pe ce (.slice (some ⟨gg, 0, none⟩) (i + 1) cap) ((ks.take (i + 1)).map Nd.sh) (w4.setCell ⟨w.heap.size, 1, none⟩ (.slice (some ⟨gg, 0, none⟩) (i + 1) cap)) := by
  have hwl := hr.own.lt
  have hsr := hr.bel.size
  have hbx := hr.blk.lt
  have hs3z := hb3.size
  have hua := (Below.refl w3.heap.size w3).alloc (Nat.le_refl _) (.cells #[.slice pe3 y.sh.es.length ce3, .slice pk3 y.sh.kids.length ck3] 28)
  have hb3a : Below wr.heap.size wr (w3.alloc (.cells #[.slice pe3 y.sh.es.length ce3, .slice pk3 y.sh.kids.length ck3] 28)) := bel_tr hb3 hua
  have hat' : (Value.slice (some ⟨gg, 0, none⟩) (i + 1) cap).ownBlock = (Value.slice p' i c').ownBlock ∨ (Value.slice (some ⟨gg, 0, none⟩) (i + 1) cap).ownBlock = some (w3.alloc (.cells #[.slice pe3 y.sh.es.length ce3, .slice pk3 y.sh.kids.length ck3] 28)).heap.size := by
    rcases hat with e | e
    · exact .inl e.symm
    · right; rw [e]; simp [Value.ownBlock]
  have hgg : w.heap.size + 1 ≤ gg := (hown.lt gg rfl).1
  have hpush : KOwn w4 (w.heap.size + 1) (fun b => w.heap.size + 1 ≤ b) (.slice (some ⟨gg, 0, none⟩) (i + 1) cap) ((ks.take (i + 1)).map Nd.sh) := by
    have htk : (ks.take (i + 1)).map Nd.sh = (ks.take i).map Nd.sh ++ [y.sh] := by rw [List.take_add_one, hy]; simp
    rw [htk]
    refine KOwn.push (v := .slice p' i c') (ks' := [y.sh]) (cells := cells) (news := [.slice pe3 y.sh.es.length ce3, .slice pk3 y.sh.kids.length ck3]) ?_ ?_ ?_ ?_ hg hat'
    · rw [hli]; exact hoc.alloc _
    · exact hec.imp fun x pl po h => h.under hua
    · have hone : KCells (SIn w3 fun b => w.heap.size + 1 ≤ b ∧ (Value.slice p' i c').ownBlock ≠ some b) [y.sh] (kcells y.sh pe3 ce3 pk3 ck3 ++ []) :=
        KCells.cons (hs3.more fun b hb _ => ⟨by omega, fun e => by have := hwl _ e; omega⟩) KCells.nil
      exact hone.imp fun x pl po h => h.under hua
    · rw [hli]; exact hown
  refine ⟨?_, hpush.far _ _ (fun e => by have : gg = w.heap.size := by simpa [Value.ownBlock] using e
                                         omega) (by simp only; omega), ?_, ?_⟩
  · have h4 : Blk w4 w.heap.size 28 #[.slice pe es.length ce, .slice p' i c'] := (hr.blk.under hb3a).grown hg (fun e => by have := hwl _ e.symm; omega)
    have := h4.set_ 1 (.slice (some ⟨gg, 0, none⟩) (i + 1) cap)
    simpa using this
  · refine ((hr.ein.under hb3a).keep (w' := w4) (S' := fun b => w.heap.size + 1 ≤ b ∧ (Value.slice (some ⟨gg, 0, none⟩) (i + 1) cap).ownBlock ≠ some b) fun b hS hl => ⟨⟨hS.1, ?_⟩, hg.block b hl (fun e => hS.2 e.symm)⟩).keep fun b hS hl => ⟨hS, Below.heap_setCell _ _ _ _ (by simp only; omega)⟩
    simp only [World.size_alloc] at hl
    rcases hat with e | e
    · rw [show (Value.slice (some ⟨gg, 0, none⟩) (i + 1) cap).ownBlock = some gg from rfl, ← e]; exact hS.2
    · intro e'
      have : gg = b := by simpa [Value.ownBlock] using e'
      omega
  · exact ((bel_tr hr.bel hb3a).grown hg (Nat.le_trans hsr hb3a.size) (fun g hg' => by have := hwl g hg'; omega)).setCell (by simp) _

set_option maxRecDepth 100000 in
set_option maxHeartbeats 4000000 in
theorem shape_any (n : Nd) : n.Fits → ∀ (w : World) (S : Nat → Prop), NIn w S n → Calls Try.prog 38 #[nptr n] w (ShapePost n w) := by
  induction n using Nd.ind with
  | h a es ks ih =>
  intro hf w S hn
  obtain ⟨i0, z0, hi0', hz0, hz1, hz2, hz3⟩ := info_parts2 infoS
  obtain ⟨pe0, pk0, ce0, ck0, hSa, n0, n1, n2, n3, hbd, he, hkk, hki⟩ := hn.open_
  simp only [Nd.es, Nd.kids] at hkk hki
  have hkl : ks.length * 48 ≤ 140737488355328 := by
    have := (Sh.Fits.kids_ hf).1
    rw [Nd.sh_kids] at this
    simpa [Nd.kids] using this
  have HcE := Lib.hid (fun (W : World) (hW : Below w.heap.size w W) => entries_any W (hn.under hW) hf)
  have HcK := Lib.hid (fun (W : World) (hW : Below w.heap.size w W) => (kids_any W (hn.under hW) (by simp only [Nd.kids]; omega)))
  have Ih := Lib.hid ih
  have Hki := Lib.hid hki
  have Hf := Lib.hid hf
  clear hkk hki he ih hn hf
  go_enter Try.func38, Try.ntmps38
  go_wp2_with fail
  refine (HcE.out _ ((Below.refl _ w).alloc (Nat.le_refl _) _)).mono ?_
  rintro e w1 ⟨pe, ce, rfl, ho1, hb1⟩
  have Ho1 := Lib.hid ho1
  have Hb1 := Lib.hid hb1
  have B1 := Lib.hid ((Blk.new w 28 #[.slice none 0 0, .slice none 0 0]).under hb1)
  have k0 := B1.out.cell 0
  have k1 := B1.out.cell 1
  have f0 := B1.out.frozen 0
  simp at k0 k1
  clear ho1 hb1
  go_wp2_with fail
  have hb2a : Below w.heap.size w (w1.setCell ⟨w.heap.size, 0, none⟩ (.slice pe es.length ce)) := (bel_tr (bel_new w _) Hb1.out).setCell (Nat.le_refl _) _
  refine (HcK.out _ hb2a).mono ?_
  rintro e w2 ⟨pk, ck, rfl, ho2, hb2⟩
  simp only [Nd.kids] at ho2
  have hs1 : w.heap.size + 1 ≤ w1.heap.size := by have := Hb1.out.size; simpa using this
  have hinv : ShInv w es pe ce (.slice none 0 0) [] w2 := by
    refine ⟨?_, KOwn.nil _ _ _, ?_, bel_tr hb2a hb2⟩
    · have := (B1.out.set_ 0 (.slice pe es.length ce)).under hb2
      simpa using this
    · have h1 : EIn w1 (fun b => w.heap.size + 1 ≤ b) es pe := Ho1.out.ein (fun b hb _ => by simpa using hb) (fun b hb _ => by simpa using hb)
      have h2 : EIn (w1.setCell ⟨w.heap.size, 0, none⟩ (.slice pe es.length ce)) (fun b => w.heap.size + 1 ≤ b ∧ (Value.slice none 0 0).ownBlock ≠ some b) es pe :=
        h1.keep fun b hS hl => ⟨⟨hS, by simp [Value.ownBlock]⟩, Below.heap_setCell _ _ _ _ (by simp only; omega)⟩
      exact h2.under hb2
  have hrow : w2.ownsRow (w.heap.size + 1) 30 1 (.slice pk ks.length ck) ks.length (ks.map nptr) := own_base ho2 (by simp; omega)
  have Hinv := Lib.hid hinv
  have Hrow := Lib.hid hrow
  clear hinv hrow ho2 hb2 hb2a Ho1 Hb1 B1 k0 k1 f0 HcE HcK
  simp only [Nd.kids]
  go_wp2_with fail
  go_loopw [4, 11] (fun v4 v11 wr => ∃ (i : Nat) (vk : Value), v11 = .int .i64 i ∧ i ≤ ks.length ∧ Hid (ShInv w es pe ce vk ((ks.take i).map Nd.sh) wr) ∧ Hid (wr.ownsRow (w.heap.size + 1) 30 1 (.slice pk ks.length ck) ks.length (ks.map nptr))) (fun _ v11 _ => ks.length - (intOf v11).toNat)
  case atStart => exact ⟨0, _, rfl, by omega, Hinv, Hrow⟩
  case round =>
    obtain ⟨i, vk, rfl, hi, Hr, Hw⟩ := hrel
    by_cases hlt : i < ks.length
    · obtain ⟨y, hy⟩ : ∃ y, ks[i]? = some y := ⟨_, List.getElem?_eq_getElem hlt⟩
      obtain ⟨gk, rfl, hgk, hrb, hcc⟩ := row_form Hw.out (by omega)
      have d0 := hcc i y hy
      obtain ⟨p', c', hv⟩ := Hr.out.own.form
      have hli : ((ks.take i).map Nd.sh).length = i := by simp; omega
      rw [hli] at hv
      subst hv
      have b1 := Hr.out.blk.cell 1
      have fb := Hr.out.blk.frozen 1
      simp at b1
      have hcall := fun (W : World) (hW : Below wr.heap.size wr W) => Ih.out y (List.mem_of_getElem? hy) (Hf.out.kid (List.mem_of_getElem? hy)) W S ((Hki.out i y hy).under (bel_tr Hr.out.bel hW))
      have Hcall := Lib.hid hcall
      have Hy := Lib.hid hy
      clear hcc hrb hy hcall
      have hi0 : (0 : Int) ≤ (i : Int) := by omega
      have hi1 : (i : Int) < (ks.length : Int) := by omega
      go_wp2_with fail
      have hwl : ∀ g, (Value.slice p' i c').ownBlock = some g → w.heap.size + 1 ≤ g ∧ g < wr.heap.size := Hr.out.own.lt
      have Hwl := Lib.hid hwl
      have hsr := Hr.out.bel.size
      have hbx := Hr.out.blk.lt
      clear hwl
      go_region_law ((first
        | (go_simp; go_at_call 38; refine (Hcall.out _ (below_drewN_self wr 1)).mono ?_; rintro e w3 ⟨pe3, ce3, pk3, ck3, rfl, hs3, hb3⟩; have hb3 := below_of_drew hb3; have Hs3 := Lib.hid hs3; have b3 := cell_below hb3 b1; have b4 := cell_alloc (.cells #[.slice pe3 y.sh.es.length ce3, .slice pk3 y.sh.kids.length ck3] 28) b3; have Ho3 := Lib.hid (Hr.out.own.under hb3); have Hb3 := Lib.hid hb3; clear hs3 hb3)
        | (obtain ⟨cells, hoc, hec⟩ := Ho3.out; rw [hli] at hoc; refine step_append_lies _ (by rfl) _ _ _ (by rfl) (w.heap.size + 1) 28 i0 z0 2 48 Try.underlying22 hi0' hz0 hz1 hz2 hz3 (by omega) (.slice p' i c') i cells (by rfl) (hoc.alloc _) ⟨w3.heap.size, 0, none⟩ 1 1 [.slice pe3 y.sh.es.length ce3, .slice pk3 y.sh.kids.length ck3] (by rfl) (by rfl) (World.news_of_block (cs := #[.slice pe3 y.sh.es.length ce3, .slice pk3 y.sh.kids.length ck3]) (t := 28) (fr := (0, 0)) (heap_alloc_new w3 _)) (by simp [Value.oneCell']) (by omega) (by simp only [maxLen]; omega) (by omega) (by have := Hb3.out.size; simp; omega) (w3.heap.size + 1) (by simp) ?_; intro gg cap w4 hown4 hgrow hat hlt4; have f1 := (((Hr.out.blk.under Hb3.out).alloc (.cells #[.slice pe3 y.sh.es.length ce3, .slice pk3 y.sh.kids.length ck3] 28)).grown hgrow (fun e => by have := Hwl.out _ e.symm; omega)).cell 1; have ff := (((Hr.out.blk.under Hb3.out).alloc (.cells #[.slice pe3 y.sh.es.length ce3, .slice pk3 y.sh.kids.length ck3] 28)).grown hgrow (fun e => by have := Hwl.out _ e.symm; omega)).frozen 1; simp at f1; have Hown4 := Lib.hid hown4; have Hgrow := Lib.hid hgrow; have Hat := Lib.hid hat; clear hown4 hgrow hat)))
      all_goals
        go_wp2_with fail
        go_roundw
        case measure => simp [intOf]; omega
        case rel =>
          refine ⟨i + 1, .slice (some ⟨gg, 0, none⟩) (i + 1) cap, by go_num, by omega, ?_, ?_⟩
          · exact shape_push Hr.out Hy.out hli Hb3.out Hs3.out hoc hec Hown4.out Hgrow.out Hat.out
          · have hk := ((own_under Hw.out Hb3.out).alloc (.cells #[.slice pe3 y.sh.es.length ce3, .slice pk3 y.sh.kids.length ck3] 28)).kept Hgrow.out (.inr fun e => own_own_ne Hw.out Hr.out.own.choose_spec.1 (by decide) _ rfl e.symm)
            exact own_far hk _ _ (fun e => by have h := (hk.lt _ e).1; simp only at h; omega)
    · obtain rfl : i = ks.length := by omega
      have hr' := Hr.out
      rw [List.take_length] at hr'
      have b0 := hr'.blk.cell 0
      have b1 := hr'.blk.cell 1
      have fb := hr'.blk.frozen
      simp at b0 b1
      obtain ⟨p', c', hv⟩ := hr'.own.form
      subst hv
      have Hr' := Lib.hid hr'
      clear hr' Hr Hw
      go_wp2_with fail
      have hB := (Hr'.out.blk.set_ 0 (.slice pe es.length ce)).set_ 1 (.slice p' ks.length c')
      simp at hB
      have hS : SIn ((wr.setCell ⟨w.heap.size, 0, none⟩ (.slice pe es.length ce)).setCell ⟨w.heap.size, 1, none⟩ (.slice p' ks.length c')) (fun b => w.heap.size ≤ b) (.mk es (ks.map Nd.sh)) pe p' := by
        have h1 := SIn.of (s := .mk es (ks.map Nd.sh)) (S := fun b => w.heap.size + 1 ≤ b) (Hr'.out.ein.more fun b hb _ => hb.1) (Hr'.out.own.kin (fun b hb _ => hb) (fun b hb _ => hb))
        exact h1.keep fun b hb hl => ⟨by omega, by rw [Below.heap_setCell _ _ _ _ (by simp only; omega), Below.heap_setCell _ _ _ _ (by simp only; omega)]⟩
      refine bodyPost_ret (results_cell1 (cs := [.slice pe es.length ce, .slice p' ks.length c']) rfl rfl (Try.isAgg28 _) (Try.sizeOf28 _) hB.cells) rfl ?_
      have hsh : (Nd.mk a es ks).sh = .mk es (ks.map Nd.sh) := by simp [Nd.sh, shs_map]
      refine ⟨pe, ce, p', c', ?_, ?_, (Hr'.out.bel.setCell (Nat.le_refl _) _).setCell (Nat.le_refl _) _⟩
      · rw [hsh]; simp [Sh.es, Sh.kids]
      · rw [hsh]; exact hS
end Go.Proofs.Ytajcmpafbcpicaa
