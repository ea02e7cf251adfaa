/- Entry of a node, and of how many nodes it is made. Conditions: the node lies in memory and fits. -/
import Derived.Test.YtajcmpafbcpicaaNode3
set_option linter.unusedVariables false
set_option linter.unusedSimpArgs false
namespace Go.Proofs.Ytajcmpafbcpicaa
open Go.RowKit

theorem EIn.part {w : World} {S : Nat → Prop} {es : List En} {a : Addr} (h : EIn w S es (some a)) (i m : Nat) : EIn w S ((es.drop i).take m) (some (a.add (i * 7))) := by
  intro j ky hj
  have hm : j < m := by
    rcases Nat.lt_or_ge j m with h1 | h1
    · exact h1
    · rw [List.getElem?_take, if_neg (by omega)] at hj; cases hj
  rw [List.getElem?_take, if_pos hm, List.getElem?_drop] at hj
  obtain ⟨a', pl, cl, po, co, e, h1, h2, h3⟩ := h _ _ hj
  injection e with e
  subst e
  refine ⟨_, pl, cl, po, co, rfl, by rw [block_add]; exact h1, ?_, h3⟩
  rw [add_add]
  rwa [show i * 7 + j * 7 = (i + j) * 7 by omega]

abbrev zeroE : Array Value := #[.string { data := #[] }, .int .i64 0, .bool false, .int .i64 0, .string { data := #[] }, .slice none 0 0, .slice none 0 0]
def EntryNo (w : World) (e : Ending) (w' : World) : Prop := e = .returned (.tuple #[.agg zeroE, .bool false]) ∧ Below w.heap.size w w'
def EntryYes (x : En) (w : World) (e : Ending) (w' : World) : Prop :=
  ∃ pl cl po co, e = .returned (.tuple #[.agg #[.string x.1, .int .i64 x.2.kind, .bool x.2.bool, .int .i64 x.2.num, .string x.2.text, .slice pl x.2.list.length cl, .slice po x.2.obj.length co], .bool true]) ∧ VIn w' (fun b => w.heap.size ≤ b) x.2 pl po ∧ Below w.heap.size w w'

theorem entry_no {S : Nat → Prop} {n : Nd} (w : World) (h : NIn w S n) (hl : n.es.length ≤ 1099511627776) (i : Int) (hi : i < 0 ∨ (n.es.length : Int) ≤ i) : Calls Try.prog 37 #[nptr n, .int .i64 i] w (EntryNo w) := by
  obtain ⟨pe, pk, ce, ck, _, h0, h1, h2, h3, _⟩ := h.open_
  have b0 := (Blk.new w 44 zeroE)
  have h0a := cell_alloc (.cells zeroE 44) h0
  by_cases hi0 : i < 0
  · go_enter Try.func37, Try.ntmps37
    go_wp2_with fail
    refine bodyPost_ret (results_cell_tmp2 (cs := zeroE.toList) rfl rfl (Try.isAgg44 _) (Try.sizeOf44 _) b0.cells) rfl ?_
    exact ⟨rfl, bel_new _ _⟩
  · have hle : (n.es.length : Int) ≤ i := by omega
    have hd0 : decide (i < 0) = false := decide_eq_false hi0
    have hd1 : decide ((n.es.length : Int) ≤ i) = true := decide_eq_true hle
    clear hi hi0
    go_enter Try.func37, Try.ntmps37
    go_wp2_with fail
    refine bodyPost_ret (results_cell_tmp2 (cs := zeroE.toList) rfl rfl (Try.isAgg44 _) (Try.sizeOf44 _) b0.cells) rfl ?_
    exact ⟨rfl, bel_new _ _⟩

set_option maxHeartbeats 1000000 in
theorem entry_yes {S : Nat → Prop} {n : Nd} (w : World) (h : NIn w S n) (hf : n.Fits) (hl : n.es.length ≤ 1099511627776) (i : Nat) (x : En) (hx : n.es[i]? = some x) : Calls Try.prog 37 #[nptr n, .int .i64 i] w (EntryYes x w) := by
  obtain ⟨pe, pk, ce, ck, _, h0, h1, h2, h3, hbd, he, _⟩ := h.open_
  have hlt : i < n.es.length := (List.getElem?_eq_some_iff.1 hx).1
  obtain ⟨a, rfl⟩ : ∃ a, pe = some a := by obtain ⟨a, _, _, _, _, e, _⟩ := he i x hx; exact ⟨a, e⟩
  have hce := hbd.2.2.1
  have hpart := he.part i 1
  rw [show (n.es.drop i).take 1 = [x] by
    rw [List.drop_eq_getElem_cons hlt, List.take_succ_cons, List.take_zero, (List.getElem?_eq_some_iff.1 hx).2]] at hpart
  have hcall := fun (W : World) (hW : Below w.heap.size w W) (c : Nat) => own_any [x] (fun e he => by simp at he; subst he; exact hf.ents.2 _ (List.mem_of_getElem? hx)) (by simp) W S (some (a.add (i * 7))) c (hpart.under hW)
  have Hcall := Lib.hid hcall
  have Hx := Lib.hid hx
  have hi0 : ¬ ((i : Int) < 0) := by omega
  have hd0 : decide ((i : Int) < 0) = false := decide_eq_false hi0
  have hd1 : decide ((n.es.length : Int) ≤ (i : Int)) = false := decide_eq_false (by omega)
  have hi1 : (i : Int) < (n.es.length : Int) := by omega
  have hw1 : IntKind.i64.wrap ((i : Int) + 1) = (i : Int) + 1 := IntWalk.i64_in _ (by omega)
  have h0a := cell_alloc (.cells zeroE 44) h0
  clear hcall hpart he hx hi0
  go_enter Try.func37, Try.ntmps37
  go_wp2_with fail
  refine (Hcall.out _ (bel_new _ _) _).mono ?_
  rintro e w1 ⟨p1, c1, rfl, ho1, hb1⟩
  have hein : EIn w1 (fun b => w.heap.size + 1 ≤ b) [x] p1 := ho1.ein (fun b hb _ => by simpa using hb) (fun b hb _ => by simpa using hb)
  obtain ⟨ax, ql, dl, qo, do_, rfl, hSx, hcx, hvx⟩ := hein 0 x rfl
  simp only [Nat.zero_mul, add_zero] at hcx
  obtain ⟨e0, e1, e2, e3, e4, e5, e6⟩ := hcx.at7
  have hB1 := (Blk.new w 44 zeroE).under hb1
  have d0 := hB1.cell 0
  have d1 := hB1.cell 1
  have d2 := hB1.cell 2
  have d3 := hB1.cell 3
  have d4 := hB1.cell 4
  have d5 := hB1.cell 5
  have d6 := hB1.cell 6
  simp at d0 d1 d2 d3 d4 d5 d6
  have hfz := hB1.frozen
  have HB1 := Lib.hid hB1
  have Hvx := Lib.hid hvx
  have Hb1 := Lib.hid (bel_tr (bel_new w _) hb1)
  clear hB1 hein ho1 hcx hvx hb1 Hcall
  go_wp2_with fail
  have hfin := ((((((HB1.out.set_ 0 (.string x.1)).set_ 1 (.int .i64 x.2.kind)).set_ 2 (.bool x.2.bool)).set_ 3 (.int .i64 x.2.num)).set_ 4 (.string x.2.text)).set_ 5 (.slice ql x.2.list.length dl)).set_ 6 (.slice qo x.2.obj.length do_)
  simp at hfin
  refine bodyPost_ret (results_cell_tmp2 (cs := ecells x.1 x.2 ql dl qo do_) rfl rfl (Try.isAgg44 _) (Try.sizeOf44 _) hfin.cells) rfl ?_
  refine ⟨ql, dl, qo, do_, rfl, ?_, ((((((Hb1.out.setCell (Nat.le_refl _) _).setCell (Nat.le_refl _) _).setCell (Nat.le_refl _) _).setCell (Nat.le_refl _) _).setCell (Nat.le_refl _) _).setCell (Nat.le_refl _) _).setCell (Nat.le_refl _) _⟩
  exact Hvx.out.keep fun b hb hl => ⟨by omega, by repeat rw [Below.heap_setCell _ _ _ _ (by simp only; omega)]⟩

set_option maxHeartbeats 1000000 in
theorem nnodes_any (n : Nd) : n.sh.nodes ≤ 1099511627776 → ∀ (w : World) (S : Nat → Prop), NIn w S n → Calls Try.prog 50 #[nptr n] w fun e w' => e = .returned (.int .i64 (n.sh.nodes : Nat)) ∧ w = w' := by
  induction n using Nd.ind with
  | h a es ks ih =>
  intro hnn w S hn
  obtain ⟨pe0, pk0, ce0, ck0, hSa, n0, n1, n2, n3, hbd, he, hkk, hki⟩ := hn.open_
  simp only [Nd.es, Nd.kids] at hkk hki n0 n1
  have hno : (Nd.mk a es ks).sh.nodes = 1 + nodess (ks.map Nd.sh) := by simp [Nd.sh, Sh.nodes, shs_map]
  rw [hno] at hnn ⊢
  have hkl : ks.length ≤ nodess (ks.map Nd.sh) := by
    have : ∀ l : List Nd, l.length ≤ nodess (l.map Nd.sh) := by
      intro l
      induction l with
      | nil => simp [nodess]
      | cons x l ih =>
        have : 1 ≤ x.sh.nodes := by obtain ⟨a, e, k⟩ := x; simp [Nd.sh, Sh.nodes]
        simp [nodess]; omega
    exact this ks
  have Ih := Lib.hid ih
  have Hki := Lib.hid hki
  have Hkk := Lib.hid hkk
  clear hkk hki he ih hn hno
  go_enter Try.func50, Try.ntmps50
  go_wp2_with fail
  go_loopw [3, 5, 13] (fun v3 v5 v13 wr => ∃ i : Nat, v13 = .int .i64 i ∧ i ≤ ks.length ∧ v3 = .int .i64 (1 + (nodess ((ks.map Nd.sh).take i) : Nat)) ∧ w = wr) (fun _ _ v13 _ => ks.length - (intOf v13).toNat)
  case atStart => exact ⟨0, rfl, by omega, by simp [nodess], rfl⟩
  case round =>
    obtain ⟨i, rfl, hi, rfl, rfl⟩ := hrel
    by_cases hlt : i < ks.length
    · obtain ⟨y, hy⟩ : ∃ y, ks[i]? = some y := ⟨_, List.getElem?_eq_getElem hlt⟩
      have hy2 : (ks.map Nd.sh)[i]? = some y.sh := by rw [List.getElem?_map, hy]; rfl
      have hst := nodess_step hy2
      have hle := nodess_take_le (ks.map Nd.sh) (i + 1)
      have hle0 := nodess_take_le (ks.map Nd.sh) i
      obtain ⟨ad, rfl, _, hcell⟩ := Hkk.out i y hy
      have hcall := Ih.out y (List.mem_of_getElem? hy) (by omega) w S (Hki.out i y hy)
      have Hcall := Lib.hid hcall
      have Hst := Lib.hid hst
      have hys : y.sh.nodes ≤ 1099511627776 := by omega
      have hw1 : IntKind.i64.wrap ((1 : Int) + (nodess ((ks.map Nd.sh).take i) : Nat) + (y.sh.nodes : Nat)) = (1 : Int) + (nodess ((ks.map Nd.sh).take i) : Nat) + (y.sh.nodes : Nat) := IntWalk.i64_in _ (by omega)
      clear hy hy2 hst hcall
      have hi0 : (0 : Int) ≤ (i : Int) := by omega
      have hi1 : (i : Int) < (ks.length : Int) := by omega
      go_wp2_with (go_at_call 50; refine Hcall.out.mono ?_; rintro e w1 ⟨rfl, rfl⟩)
      go_roundw
      case measure => simp [intOf]; omega
      case rel => exact ⟨i + 1, by go_num, by omega, by rw [Hst.out]; congr 1; omega, (by first | rfl | trivial)⟩
    · obtain rfl : i = ks.length := by omega
      go_wp2_with fail
      go_ret
      refine ⟨?_, rfl⟩
      rw [List.take_of_length_le (by simp)]
      first | rfl | (congr 2; omega)
end Go.Proofs.Ytajcmpafbcpicaa
