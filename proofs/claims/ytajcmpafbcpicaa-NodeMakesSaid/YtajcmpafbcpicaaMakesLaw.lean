/- The walk of the law NodeMakes: it answers true. Conditions: the shape lies in memory and fits. -/
import Derived.Test.YtajcmpafbcpicaaNode3
import Derived.Test.YtajcmpafbcpicaaRSame
import Derived.Test.YtajcmpafbcpicaaBounds
set_option linter.unusedVariables false
set_option linter.unusedSimpArgs false
namespace Go.Proofs.Ytajcmpafbcpicaa
open Go.RowKit

def ShapeP (s : Sh) (w : World) (e : Ending) (w' : World) : Prop :=
  ∃ pe ce pk ck, e = .returned (.agg #[.slice pe s.es.length ce, .slice pk s.kids.length ck]) ∧ SIn w' (fun b => w.heap.size ≤ b) s pe pk ∧ Below w.heap.size w w'
theorem shape_of {n : Nd} {s : Sh} (h : n.sh = s) (hf : s.Fits) (w : World) (S : Nat → Prop) (hn : NIn w S n) : Calls Try.prog 38 #[nptr n] w (ShapeP s w) := by
  subst h
  exact shape_any n hf w S hn

set_option maxRecDepth 100000 in
set_option maxHeartbeats 4000000 in
theorem makes_walk (s : Sh) (hf : s.Fits) (w : World) (pe : Option Addr) (ce : Nat) (pk : Option Addr) (ck : Nat) (hs : SIn w (fun _ => True) s pe pk) :
    Calls Try.prog 5 #[.agg #[.slice pe s.es.length ce, .slice pk s.kids.length ck]] w (BoolPost true w) := by
  have hs' : SIn w (fun b => b < w.heap.size) s pe pk := hs.more fun b _ hl => hl
  have hbx := Boxed.new w pe s.es.length ce pk s.kids.length ck
  have hsW := fun (W : World) (hW : Below w.heap.size w W) => hs'.under hW
  have Hbx := Lib.hid hbx
  have HsW := Lib.hid hsW
  have Hf := Lib.hid hf
  have hB0 : Below w.heap.size w (w.alloc (.cells #[.slice pe s.es.length ce, .slice pk s.kids.length ck] 28)) := hbx.bel
  have HB0 := Lib.hid hB0
  have hcS := small_any s 10 (by omega) _ _ pe ce pk ck (hsW _ hB0)
  have HcS := Lib.hid hcS
  have HK := Lib.hid known_any
  clear hs hs' hbx hsW hf hB0 hcS
  cases hsm : smallS 10 s with
  | false =>
    rw [hsm] at HcS
    go_enter Try.func5, Try.ntmps5
    go_wp2_with (first
      | (go_at_call 30; refine HcS.out.mono ?_; rintro e w1 ⟨rfl, hb1⟩; have Hb1 := Lib.hid (bel_tr HB0.out hb1); clear hb1)
      | (go_at_call 29; refine (HK.out w1).mono ?_; rintro e w2 ⟨rfl, hb2⟩; have Hb2 := Lib.hid (bel_tr Hb1.out hb2); clear hb2))
    go_ret
    exact ⟨rfl, Hb2.out⟩
  | true =>
    rw [hsm] at HcS
    have htrim := small_trim (by omega) hsm
    have hneat := small_neat (by omega) hsm
    have HcM := Lib.hid (fun (W : World) (hW : Below w.heap.size w W) => rmay_any s htrim W (fun b => b < w.heap.size) pe ce pk ck (fun b hb => Nat.lt_of_lt_of_le hb hW.size) (HsW.out W hW))
    have HcO := Lib.hid (fun (W : World) (S : Nat → Prop) (qe : Option Addr) (de : Nat) (qk : Option Addr) (dk : Nat) (h : SIn W S s qe qk) => of_any s hneat Hf.out htrim W S qe de qk dk h)
    clear htrim hneat hsm
    cases hm : s.may with
    | false =>
      have HM := Lib.hid hm
      rw [hm] at HcM
      clear hm
      have hcN := fun (W : World) (hW : Below w.heap.size w W) => (HcO.out W _ pe ce pk ck (HsW.out W hW)).mono (R' := fun e w' => e = .returned (.tuple #[.pointer none, .int .i64 2]) ∧ Below W.heap.size W w') fun e w' h => by
        rcases h with ⟨hb, (⟨h1, _⟩ | ⟨_, rfl⟩)⟩
        · rw [HM.out] at h1; cases h1
        · exact ⟨rfl, hb⟩
      have HcN := Lib.hid hcN
      clear hcN
      go_enter Try.func5, Try.ntmps5
      go_wp2_with (first
        | (go_at_call 30; refine HcS.out.mono ?_; rintro e w1 ⟨rfl, hb1⟩; have Bx1 := Lib.hid (Hbx.out.under hb1); have x0 := Bx1.out.cells.1; have x1 := Bx1.out.cells.2; have Hb1 := Lib.hid (bel_tr HB0.out hb1); clear hb1)
        | (go_at_call 32; refine (HcN.out w1 Hb1.out).mono ?_; rintro e w2 ⟨rfl, hb2⟩; have Bx2 := Lib.hid (Bx1.out.under hb2); have y0 := Bx2.out.cells.1; have y1 := Bx2.out.cells.2; have Hb2 := Lib.hid (bel_tr Hb1.out hb2); clear hb2)
        | (go_at_call 31; refine (HcM.out w2 Hb2.out).mono ?_; rintro e w3 ⟨rfl, hb3⟩; have Hb3 := Lib.hid (bel_tr Hb2.out hb3); clear hb3)
        | (go_at_call 29; refine (HK.out w3).mono ?_; rintro e w4 ⟨rfl, hb4⟩; have Hb4 := Lib.hid (bel_tr Hb3.out hb4); clear hb4))
      go_ret
      exact ⟨rfl, Hb4.out⟩
    | true =>
      have HM := Lib.hid hm
      rw [hm] at HcM
      clear hm
      have HcY := Lib.hid (fun (W : World) (S : Nat → Prop) (qe : Option Addr) (de : Nat) (qk : Option Addr) (dk : Nat) (h : SIn W S s qe qk) => (HcO.out W S qe de qk dk h).mono fun e w' h => of_yes h HM.out)
      clear HcO
      go_enter Try.func5, Try.ntmps5
      go_upto_region 7 with (first
        | (go_at_call 30; refine HcS.out.mono ?_; rintro e w1 ⟨rfl, hb1⟩; have Bx1 := Lib.hid (Hbx.out.under hb1); have x0 := Bx1.out.cells.1; have x1 := Bx1.out.cells.2; have Hb1 := Lib.hid (bel_tr HB0.out hb1); clear hb1)
        | (go_at_call 31; refine (HcM.out w2 Hb2.out).mono ?_; rintro e w3 ⟨rfl, hb3⟩; have Bx3 := Lib.hid (Bx2.out.under hb3); have z0 := Bx3.out.cells.1; have z1 := Bx3.out.cells.2; have Hn3 := Lib.hid (Hn2.out.under hb3); have Hb3 := Lib.hid (bel_tr Hb2.out hb3); clear hb3)
        | (go_at_call 38; refine (shape_of Hsh.out Hf.out w3 _ Hn3.out).mono ?_; rintro e w4 ⟨qe, de, qk, dk, rfl, hs4, hb4⟩; have Hs4 := Lib.hid hs4; have Bx4 := Lib.hid (Bx3.out.under hb4); have Hb4 := Lib.hid (bel_tr Hb3.out hb4); clear hb4 hs4)
        | (go_at_call 32; refine (HcY.out w1 _ pe ce pk ck (HsW.out w1 Hb1.out)).mono ?_; rintro e w2 ⟨n, rfl, hsh, hn, hb2⟩; have Hn2 := Lib.hid hn; have Hsh := Lib.hid hsh; have Bx2 := Lib.hid (Bx1.out.under hb2); have y0 := Bx2.out.cells.1; have y1 := Bx2.out.cells.2; have Hb2 := Lib.hid (bel_tr Hb1.out hb2); clear hb2 hn hsh))
      have hu5 := bel_new w4 (.cells #[.slice qe s.es.length de, .slice qk s.kids.length dk] 28)
      have b5 := Blk.new w4 28 #[.slice qe s.es.length de, .slice qk s.kids.length dk]
      have Hg4 := Lib.hid hu5.size
      generalize hg5 : w4.heap.size = g5 at b5 ⊢
      have Hlt5 := Lib.hid b5.lt
      generalize w4.alloc (.cells #[.slice qe s.es.length de, .slice qk s.kids.length dk] 28) = W5 at hu5 b5 Hg4 Hlt5 ⊢
      have Bx5 := Lib.hid (Bx4.out.under hu5)
      have Hs5 := Lib.hid (Hs4.out.under hu5)
      have Hb5 := Lib.hid (bel_tr Hb4.out hu5)
      have B5 := Lib.hid b5
      have c0 := b5.cell 0
      have c1 := b5.cell 1
      simp at c0 c1
      clear hu5 b5 hg5 Bx1 Bx2 Bx3 Bx4 x0 x1 y0 y1 z0 z1 Hb1 Hb2 Hb3 Hb4 Hn2 Hn3 Hs4 Hg4 HcS HcM HB0
      go_upto_region 8 with (go_at_call 32; refine (HcY.out W5 _ qe de qk dk Hs5.out).mono ?_; rintro e w6 ⟨m, rfl, hshm, hm6, hb6⟩; have Hm6 := Lib.hid hm6; have Hshm := Lib.hid hshm; have Hb6 := Lib.hid hb6; clear hb6 hshm hm6)
      have Bx6 := Lib.hid (Bx5.out.under Hb6.out)
      have B6 := Lib.hid (B5.out.under Hb6.out)
      have Hs6 := Lib.hid (Hs5.out.under Hb6.out)
      have Hbb6 := Lib.hid (bel_tr Hb5.out Hb6.out)
      have y0 := Bx6.out.cells.1
      have y1 := Bx6.out.cells.2
      have d0 := B6.out.cell 0
      have d1 := B6.out.cell 1
      simp at d0 d1
      have hcSm := fun (W : World) (hW : Below w6.heap.size w6 W) => shape_of Hshm.out Hf.out W _ (Hm6.out.under hW)
      have HcSm := Lib.hid hcSm
      have hcE1 := fun (W : World) (hW : Below w6.heap.size w6 W) => rsame_any s Hf.out W _ _ qe qk pe pk de dk ce ck (Hs6.out.under hW) (HsW.out W (bel_tr Hbb6.out hW))
      have HcE1 := Lib.hid hcE1
      have hcE2 := fun (W : World) (hW : Below w6.heap.size w6 W) (S : Nat → Prop) (re rk : Option Addr) (de dk : Nat) (h : SIn W S s re rk) => rsame_any s Hf.out W _ _ re rk pe pk de dk ce ck h (HsW.out W (bel_tr Hbb6.out hW))
      have HcE2 := Lib.hid hcE2
      clear hcSm hcE1 hcE2 c0 c1 Bx5 B5 Hb5 Hs5 HcY
      go_region_held3 (fun w' => w'.cell? ⟨w.heap.size, 0, none⟩ = some (.slice pe s.es.length ce) ∧ w'.cell? ⟨w.heap.size, 1, none⟩ = some (.slice pk s.kids.length ck) ∧ w'.cell? ⟨g5, 0, none⟩ = some (.slice qe s.es.length de) ∧ w'.cell? ⟨g5, 1, none⟩ = some (.slice qk s.kids.length dk))
        (first | go_keep | trace_state)
        (first
          | (go_at_call_of 39 (Value.agg #[.slice qe s.es.length de, .slice qk s.kids.length dk]); refine (HcE1.out w6.drew ((Below.refl _ w6).drew)).mono ?_; rintro e w7 ⟨rfl, hb7⟩; have Hb7 := Lib.hid (below_of_drew hb7); have hk7 := fun (p : Addr) (v : Value) (h : w6.cell? p = some v) => cell_below (below_of_drew hb7) h; clear hb7)
          | (go_at_call 38; refine (HcSm.out w7 Hb7.out).mono ?_; rintro e w8 ⟨re, fe, rk, fk, rfl, hs8, hb8⟩; have Hs8 := Lib.hid hs8; have Hb8 := Lib.hid (below_then Hb7.out Hb7.out.size hb8); have hk8 := fun (p : Addr) (v : Value) (h : w6.cell? p = some v) => cell_below (below_then Hb7.out Hb7.out.size hb8) h; clear hb8 hs8)
          | (go_at_call_of 39 (Value.agg #[.slice re s.es.length fe, .slice rk s.kids.length fk]); refine (HcE2.out w8 Hb8.out _ re rk fe fk Hs8.out).mono ?_; rintro e w9 ⟨rfl, hb9⟩; have Hb9 := Lib.hid (below_then Hb8.out Hb8.out.size hb9); have hk9 := fun (p : Addr) (v : Value) (h : w6.cell? p = some v) => cell_below (below_then Hb8.out Hb8.out.size hb9) h; clear hb9)
          | (go_at_call 29; refine (HK.out w9).mono ?_; rintro e w10 ⟨rfl, hb10⟩; have Hb10 := Lib.hid (below_then Hb9.out Hb9.out.size hb10); have hk10 := fun (p : Addr) (v : Value) (h : w6.cell? p = some v) => cell_below (below_then Hb9.out Hb9.out.size hb10) h; clear hb10))
      go_wp2_with fail
      go_ret
      exact ⟨rfl, bel_tr Hbb6.out Hb10.out⟩
end Go.Proofs.Ytajcmpafbcpicaa
