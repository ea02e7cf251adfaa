/- node.Of: the node of a shape that may be one; else ErrArg. Conditions: the shape lies in memory; it is trim and fits. -/
import Derived.Test.YtajcmpafbcpicaaInner
import Derived.Test.YtajcmpafbcpicaaRef4
set_option linter.unusedVariables false
set_option linter.unusedSimpArgs false
namespace Go.Proofs.Ytajcmpafbcpicaa
open Go.RowKit

/-- Trim, and every kid's lists fit; few entries in all. -/
inductive Sh.Neat : Sh → Prop
  | mk {es : List En} {kids : List Sh} (hf : (Sh.mk es kids).flat.length ≤ 1099511627776) (hh : (Sh.mk es kids).height < 1099511627776) (hks : ∀ k, k ∈ kids → Sh.Neat k) : Sh.Neat (.mk es kids)
theorem Sh.Neat.height_ {s : Sh} (h : s.Neat) : s.height < 1099511627776 := by cases h; assumption
theorem Sh.Neat.flat_ {s : Sh} (h : s.Neat) : s.flat.length ≤ 1099511627776 := by cases h; assumption

def OfPost (s : Sh) (w : World) (e : Ending) (w' : World) : Prop :=
  Below w.heap.size w w' ∧ ((s.may = true ∧ ∃ n : Nd, e = .returned (.tuple #[nptr n, .int .i64 0]) ∧ n.sh = s ∧ NIn w' (fun b => w.heap.size ≤ b) n) ∨
    (s.may = false ∧ e = .returned (.tuple #[.pointer none, .int .i64 2])))

/-- The kids that have been made. -/
structure OfInv (w : World) (ks : List Sh) (vk : Value) (ns : List Nd) (wr : World) : Prop where
  row : wr.ownsRow (w.heap.size + 1) 30 1 vk ns.length (ns.map nptr)
  ns_ : ns.map Nd.sh = ks.take ns.length
  nin : ∀ n ∈ ns, NIn wr (fun b => w.heap.size ≤ b ∧ vk.ownBlock ≠ some b) n
  may : ∀ n ∈ ns, n.ok

theorem infoN : (Try.prog.info? 30).map (fun i => (i.zero.map fun z => z.cells.size, i.size, i.bytes)) = some (some 1, 1, 8) := by kernel_rfl

set_option maxRecDepth 100000 in
set_option maxHeartbeats 4000000 in
theorem of_any (s : Sh) (hn : s.Neat) : s.Fits → s.Trim → ∀ (w : World) (S : Nat → Prop) (pe : Option Addr) (ce : Nat) (pk : Option Addr) (ck : Nat), SIn w S s pe pk →
    Calls Try.prog 32 #[.agg #[.slice pe s.es.length ce, .slice pk s.kids.length ck]] w (OfPost s w) := by
  induction hn with
  | @mk es ks hfl hhe hks ih =>
  intro hf ht w S pe ce pk ck hs
  obtain ⟨i0, z0, hi, hz0, hz1, hz2, hz3⟩ := info_parts2 infoN
  have hk := hs.kids_
  have he := hs.ents
  have hf1 := hf.ents
  have hf2 := hf.kids_
  have ht1 := fun k hk => ht.kid (k := k) hk
  simp only [Sh.es, Sh.kids] at hk he hf1 hf2 ht1 ⊢
  have hbx := Boxed.new w pe es.length ce pk ks.length ck
  cases ks with
  | nil =>
    have Hbx := Lib.hid hbx
    have hc := leaf_any es hf1.2 hf1.1 _ S pe ce (he.under hbx.bel)
    have Hc := Lib.hid hc
    clear hc hk hs ih he hbx hf1 hf2 ht1 hks
    simp only [List.length_nil] at Hbx Hc ⊢
    go_enter Try.func32, Try.ntmps32
    go_wp2_with (go_at_call 35; refine Hc.out.mono ?_; rintro e w1 ⟨hb, (⟨h8, hr, a, rfl, ha, hn⟩ | ⟨hno, rfl⟩)⟩)
    · go_ret2
      refine ⟨below_then Hbx.out.bel Hbx.out.bel.size hb, .inl ⟨by simp [Sh.may, h8, hr], _, rfl, by simp [Nd.sh, shs], hn.more fun b hb' _ => Nat.le_trans Hbx.out.bel.size hb'⟩⟩
    · go_ret2
      refine ⟨below_then Hbx.out.bel Hbx.out.bel.size hb, .inr ⟨?_, rfl⟩⟩
      cases hm : (Sh.mk es []).may with
      | false => rfl
      | true => exact absurd ((Sh.may_leaf es).1 hm) hno
  | cons k0 l0 =>
    have hz : ((((k0 :: l0).length : Nat) : Int) == 0) = false := by simp; omega
    have hmi := Sh.may_inner es (k0 :: l0) (by simp)
    have hflat : (Sh.mk es (k0 :: l0)).flat = flats (k0 :: l0) := by simp [Sh.flat]
    have hne : (k0 :: l0) ≠ [] := by simp
    generalize hks' : k0 :: l0 = ks at *
    clear hks'
    have Hbx := Lib.hid hbx
    have Hmi := Lib.hid hmi
    have Hne := Lib.hid hne
    have Hk := Lib.hid hk
    have Ih := Lib.hid ih
    have Hf1 := Lib.hid hf1
    have Hf2 := Lib.hid hf2
    have Ht1 := Lib.hid ht1
    have Hflat := Lib.hid hflat
    have Hks := Lib.hid hks
    clear hk hs ih he hbx hf1 hf2 ht1 hmi hne hflat hks hf ht
    by_cases hes : 0 < es.length
    · have h1' : decide ((0 : Int) < (es.length : Int)) = true := decide_eq_true (by omega)
      have h1'' : decide (0 < es.length) = true := decide_eq_true (by omega)
      go_enter Try.func32, Try.ntmps32
      go_wp2_with fail
      go_ret2
      refine ⟨Hbx.out.bel, .inr ⟨?_, rfl⟩⟩
      cases hm : (Sh.mk es ks).may with
      | false => rfl
      | true =>
        have := (Hmi.out.1 hm).1
        subst this
        simp at hes
    have h1' : decide ((0 : Int) < (es.length : Int)) = false := decide_eq_false (by omega)
    have h1'' : decide (0 < es.length) = false := decide_eq_false (by omega)
    have hes0 : es = [] := List.eq_nil_of_length_eq_zero (by omega)
    have Hes0 := Lib.hid hes0
    clear hes0 hes
    go_enter Try.func32, Try.ntmps32
    go_wp2_with fail
    have Hinv : Hid (OfInv w ks (.slice none 0 0) [] (w.alloc (.cells #[.slice pe es.length ce, .slice pk ks.length ck] 28))) := ⟨World.ownsRow_nil _ _ _ _, by simp, fun n hn => by simp at hn, fun n hn => by simp at hn⟩
    go_loopw [4, 25] (fun vk vi wr => ∃ ns : List Nd, ns.length ≤ ks.length ∧ vi = .int .i64 (ns.length : Nat) ∧ Hid (OfInv w ks vk ns wr) ∧ Hid (Boxed w pe es.length ce pk ks.length ck wr)) (fun vk vi _ => ks.length - (intOf vi).toNat)
    case atStart => exact ⟨[], by simp, rfl, Hinv, Hbx⟩
    case round =>
      obtain ⟨ns, hle, rfl, Hr, Hb⟩ := hrel
      obtain ⟨po, co, rfl⟩ := own_slice Hr.out.row
      by_cases hlt : ns.length < ks.length
      · obtain ⟨k, hk⟩ : ∃ k, ks[ns.length]? = some k := ⟨_, List.getElem?_eq_getElem hlt⟩
        obtain ⟨a, qe, de, qk, dk, rfl, c0, c1, hsk⟩ := Hk.out.cells hk
        have hax := World.block_lt_of_cell? w _ c0
        have c0' := Hb.out.bel.cell (p := a.add (ns.length * 2)) hax
        have c1' := Hb.out.bel.cell (p := ⟨(a.add (ns.length * 2)).block, (a.add (ns.length * 2)).off + 1, none⟩) hax
        rw [c0] at c0'
        rw [c1] at c1'
        have hmem := List.mem_of_getElem? hk
        have hcall := Ih.out k hmem (Hf2.out.2 k hmem) (Ht1.out k hmem)
        have Hcall := Lib.hid (fun (W : World) (hW : Below wr.heap.size wr W) => hcall W S qe de qk dk ((hsk.under Hb.out.bel).under hW))
        have HK := Lib.hid hk
        have Hmem := Lib.hid hmem
        clear c0 c1 hsk hk hmem hcall
        have hu0 : Below wr.heap.size wr (wr.alloc (.cells #[.slice qe k.es.length de, .slice qk k.kids.length dk] 28)) := (Below.refl _ wr).alloc (Nat.le_refl _) _
        have Hu0 := Lib.hid hu0
        have hk8 : (ks.length + 1) * 8 ≤ 140737488355328 := by have := Hf2.out.1; omega
        have HrowU := Lib.hid (own_under Hr.out.row hu0)
        clear hu0
        go_wp2_with (first
          | (go_at_call 32; refine (Hcall.out _ Hu0.out).mono ?_; rintro e w1 ⟨hb1, (⟨hmay, n, rfl, hsh, hnin⟩ | ⟨hno, rfl⟩)⟩ <;> (have Hb1 := Lib.hid hb1; clear hb1))
          | (at_builtin; refine wpList_append_own_at _ rfl _ _ 24 rfl (w.heap.size + 1) 30 i0 z0 1 8 Try.underlying24 hi hz0 hz1 hz2 hz3 (by decide) (.slice po ns.length co) ns.length (ns.map nptr) rfl ((own_under HrowU.out Hb1.out).alloc _) ⟨w1.heap.size, 0, none⟩ 1 1 [nptr n] rfl rfl (World.news_of_block (cs := #[nptr n]) (t := 30) (fr := (0, 0)) (heap_alloc_new w1 _)) (by simp [nptr, Value.oneCell']) (by simp only [maxLen]; omega) (by omega) (by have := Hb.out.blk.lt; have := Hb1.out.size; have := Hu0.out.size; simp only [World.size_alloc] at *; omega) ?_; intro v2 w2 hown2 hgr2 _ hat2; have Hown2 := Lib.hid hown2; have Hgr2 := Lib.hid hgr2; have Hat2 := Lib.hid hat2; clear hown2 hgr2 hat2))
        · have hown : ∀ g, (Value.slice po ns.length co).ownBlock = some g → w.heap.size + 1 ≤ g ∧ g < wr.heap.size := fun g hg => Hr.out.row.lt g hg
          have hb12 : Below wr.heap.size wr (w1.alloc (.cells #[nptr n] 30)) := (below_then Hu0.out Hu0.out.size Hb1.out).alloc (by have := Hb1.out.size; have := Hu0.out.size; omega) _
          have hs1 := Hb1.out.size
          have hs0 := Hu0.out.size
          have hs12 := hb12.size
          have hkeep : ∀ b, b < wr.heap.size → (Value.slice po ns.length co).ownBlock ≠ some b → w2.heap[b]? = wr.heap[b]? := fun b hl hne =>
            (Hgr2.out.block b (by omega) (fun e => hne e.symm)).trans (hb12.block b hl)
          refine ⟨⟨ns ++ [n], (by have : (ns ++ [n]).length = ns.length + 1 := List.length_append; omega), (by simp), ?_, ?_, ?_⟩, (by first | (simp [intOf]; omega) | (simp [intOf]; done))⟩
          · refine ⟨(by simpa using Hown2.out), ?_, ?_, ?_⟩
            · have := Hr.out.ns_
              rw [List.length_append, List.map_append, this, List.length_singleton, List.take_add_one, HK.out]
              simp [hsh]
            · intro m hm
              have hnew : ∀ b, b < w1.heap.size → (Value.slice po ns.length co).ownBlock ≠ some b → v2.ownBlock ≠ some b := fun b hl hne => by
                rcases Hat2.out with e | e
                · rw [e]; exact hne
                · rw [e]; intro e; injection e with e; simp at e; omega
              rcases List.mem_append.1 hm with hm | hm
              · exact (Hr.out.nin m hm).keep fun b hS hl => ⟨⟨hS.1, hnew b (by simp only [World.size_alloc] at *; omega) hS.2⟩, hkeep b hl hS.2⟩
              · simp at hm
                subst hm
                refine hnin.keep fun b hS hl => ?_
                have hne : (Value.slice po ns.length co).ownBlock ≠ some b := fun e => by
                  have := hown b e
                  omega
                refine ⟨⟨by have := Hb.out.bel.size; omega, hnew b hl hne⟩, ?_⟩
                rw [Hgr2.out.block b (by simp; omega) (fun e => hne e.symm)]
                exact heap_alloc_old _ _ hl
            · intro m hm
              rcases List.mem_append.1 hm with hm | hm
              · exact Hr.out.may m hm
              · simp at hm
                subst hm
                show m.sh.may = true
                rw [hsh]; exact hmay
          · exact (Hb.out.blk.under hb12).grown Hgr2.out fun e => by have := hown _ e.symm; omega
          · exact (below_then Hb.out.bel Hb.out.bel.size hb12).grown Hgr2.out (by have := Hb.out.bel.size; omega) fun g hg => by have := hown g hg; omega
        · go_ret2
          refine ⟨below_then Hb.out.bel Hb.out.bel.size (below_then Hu0.out Hu0.out.size Hb1.out), .inr ⟨?_, rfl⟩⟩
          cases hm : (Sh.mk es ks).may with
          | false => rfl
          | true =>
            have := (Hmi.out.1 hm).2.2.2.1 k Hmem.out
            rw [hno] at this
            cases this.1
      · have hl : ns.length = ks.length := by omega
        have hns := Hr.out.ns_
        rw [hl, List.take_length] at hns
        have hsh : shs ns = ks := by rw [shs_map, hns]
        have hcc : cnts ns ≤ 1099511627776 := by unfold cnts; rw [hsh, ← Hflat.out]; exact hfl
        have hhg : ∀ k ∈ ns, k.hgt < 1099511627776 := fun k hk => by
          have hmem : k.sh ∈ ks := by rw [← hns]; exact List.mem_map_of_mem hk
          have := Hks.out _ hmem
          exact this.height_
        have hp := PIn.of_own (S := fun _ => True) Hr.out.row (fun b _ => trivial)
        have hcI := inner_any (S := fun b => w.heap.size ≤ b ∧ (Value.slice po ns.length co).ownBlock ≠ some b) ns wr po co hp.1 (fun k hk => ⟨Hr.out.nin k hk, Hr.out.may k hk⟩) hcc hhg
        have HcI := Lib.hid hcI
        have Hsh := Lib.hid hsh
        clear hcI hp hhg hcc hsh hns
        clear hl
        go_wp2_with (go_at_call 33; refine HcI.out.mono ?_; rintro e w1 ⟨hb1, (⟨htog, a, rfl, ha, hni⟩ | ⟨hno, rfl⟩)⟩)
        · go_ret2
          refine ⟨below_then Hb.out.bel Hb.out.bel.size hb1, .inl ⟨?_, _, rfl, ?_, hni.more fun b hb _ => ?_⟩⟩
          · have := htog.2
            rw [Hsh.out] at this
            rw [Hes0.out]; exact this
          · simp [Nd.sh, Hsh.out, Hes0.out]
          · rcases hb with hb | hb
            · exact hb.1
            · exact Nat.le_trans Hb.out.bel.size hb
        · go_ret2
          refine ⟨below_then Hb.out.bel Hb.out.bel.size hb1, .inr ⟨?_, rfl⟩⟩
          cases hm : (Sh.mk es ks).may with
          | false => rfl
          | true =>
            refine absurd ⟨?_, ?_⟩ hno
            · intro e
              have := Hsh.out
              rw [e] at this
              exact Hne.out this.symm
            · rw [Hsh.out, ← Hes0.out]; exact hm
end Go.Proofs.Ytajcmpafbcpicaa
