/- The document's Compare of two values that are lists, or objects; then of any two. Conditions: both lie in memory and fit. -/
import Derived.Test.YtajcmpafbcpicaaCmp2
set_option linter.unusedVariables false
set_option linter.unusedSimpArgs false
namespace Go.Proofs.Ytajcmpafbcpicaa
open Go.RowKit

abbrev vaggV (x : V) (pl : Option Addr) (cl : Nat) (po : Option Addr) (co : Nat) : Array Value := vagg x.kind x.bool x.num x.text pl x.list.length cl po x.obj.length co
def CmpC (x : V) : Prop := ∀ (y : V), y.Fits → ∀ (w : World) (S T : Nat → Prop) (pl po ql qo : Option Addr) (cl co dl dO : Nat), VIn w S x pl po → VIn w T y ql qo →
  Calls Try.prog 111 #[.agg (vaggV x pl cl po co), .agg (vaggV y ql dl qo dO)] w (IntB (x.cmp y) w)

set_option maxRecDepth 100000 in
set_option maxHeartbeats 4000000 in
theorem cmp_list (l l' : List V) (hl : l.length * 88 ≤ 140737488355328) (hl' : l'.length * 88 ≤ 140737488355328) (ih : ∀ x ∈ l, CmpC x) (hf : ∀ y ∈ l', y.Fits)
    (b b' : Bool) (n n' : Int) (t t' : Key) (pl po ql qo : Option Addr) (cl ol co dl ol' dO : Nat) (w : World) (S T : Nat → Prop) (h : LIn w S l pl) (h' : LIn w T l' ql) :
    Calls Try.prog 111 #[.agg (vagg 5 b n t pl l.length cl po ol co), .agg (vagg 5 b' n' t' ql l'.length dl qo ol' dO)] w (IntB (cmpL l l') w) := by
  have HB0 := Lib.hid (Two.new w (vagg 5 b n t pl l.length cl po ol co) (vagg 5 b' n' t' ql l'.length dl qo ol' dO))
  have H := Lib.hid h
  have H' := Lib.hid h'
  have Ih := Lib.hid ih
  have Hf := Lib.hid hf
  clear h h' ih hf
  go_enter Try.func111, Try.ntmps111
  go_wp2_with fail
  go_loopw [5, 6] (fun v5 v6 wr => ∃ i : Nat, v5 = .int .i64 i ∧ i ≤ l.length ∧ i ≤ l'.length ∧ Hid (cmpL (l.drop i) (l'.drop i) = cmpL l l') ∧ Hid (Two w (vagg 5 b n t pl l.length cl po ol co) (vagg 5 b' n' t' ql l'.length dl qo ol' dO) wr)) (fun v5 _ _ => l.length - (intOf v5).toNat)
  case atStart => exact ⟨0, rfl, by omega, by omega, rfl, HB0⟩
  case round =>
    obtain ⟨i, rfl, hi, hi', Hd, Hr⟩ := hrel
    have c4 := Hr.out.bx.cell 4
    have d4 := Hr.out.by_.cell 4
    simp at c4 d4
    by_cases hlt : i < l.length ∧ i < l'.length
    · obtain ⟨h1, h2⟩ := hlt
      obtain ⟨x, hx⟩ : ∃ x, l[i]? = some x := ⟨_, List.getElem?_eq_getElem h1⟩
      obtain ⟨y, hy⟩ : ∃ y, l'[i]? = some y := ⟨_, List.getElem?_eq_getElem h2⟩
      obtain ⟨ax, xpl, xcl, xpo, xco, rfl, hSx, hcx, hvx⟩ := H.out i x hx
      obtain ⟨ay, ypl, ycl, ypo, yco, rfl, hSy, hcy, hvy⟩ := H'.out i y hy
      have hcx' : Cells wr (ax.add (i * 6)) (vcells x xpl xcl xpo xco) := hcx.keep (S := S) (fun b _ hl => Hr.out.bel.block b hl) (by rw [block_add]; exact hSx)
      have hcy' : Cells wr (ay.add (i * 6)) (vcells y ypl ycl ypo yco) := hcy.keep (S := T) (fun b _ hl => Hr.out.bel.block b hl) (by rw [block_add]; exact hSy)
      obtain ⟨e0, e1, e2, e3, e4, e5⟩ := hcx'.at6
      obtain ⟨f0, f1, f2, f3, f4, f5⟩ := hcy'.at6
      have hcall := Ih.out x (List.mem_of_getElem? hx) y (Hf.out y (List.mem_of_getElem? hy)) wr.drew S T xpl xpo ypl ypo xcl xco ycl yco (hvx.under Hr.out.bel).drew (hvy.under Hr.out.bel).drew
      have hstep := cmpL_drop hx hy
      have Hcall := Lib.hid hcall
      have Hstep := Lib.hid hstep
      clear hcx hcy hcx' hcy' hvx hvy hcall hstep hx hy
      have hi0 : (0 : Int) ≤ (i : Int) := by omega
      have hi1 : (i : Int) < (l.length : Int) := by omega
      have hi2 : (i : Int) < (l'.length : Int) := by omega
      by_cases hz : x.cmp y = 0
      · have hz1 : (x.cmp y != 0) = false := by simpa using hz
        have Hz := Lib.hid hz
        clear hz
        go_wp2_with fail
        go_region_held3 (fun w' => w'.cell? ⟨w.heap.size, 4, none⟩ = some (.slice (some ax) l.length cl) ∧ w'.cell? ⟨w.heap.size + 1, 4, none⟩ = some (.slice (some ay) l'.length dl) ∧ w'.cell? (ax.add (i * 6)) = some (.int .i64 x.kind) ∧ w'.cell? ⟨(ax.add (i * 6)).block, (ax.add (i * 6)).off + 1, none⟩ = some (.bool x.bool) ∧ w'.cell? ⟨(ax.add (i * 6)).block, (ax.add (i * 6)).off + 2, none⟩ = some (.int .i64 x.num) ∧ w'.cell? ⟨(ax.add (i * 6)).block, (ax.add (i * 6)).off + 3, none⟩ = some (.string x.text) ∧ w'.cell? ⟨(ax.add (i * 6)).block, (ax.add (i * 6)).off + 4, none⟩ = some (.slice xpl x.list.length xcl) ∧ w'.cell? ⟨(ax.add (i * 6)).block, (ax.add (i * 6)).off + 5, none⟩ = some (.slice xpo x.obj.length xco) ∧ w'.cell? (ay.add (i * 6)) = some (.int .i64 y.kind) ∧ w'.cell? ⟨(ay.add (i * 6)).block, (ay.add (i * 6)).off + 1, none⟩ = some (.bool y.bool) ∧ w'.cell? ⟨(ay.add (i * 6)).block, (ay.add (i * 6)).off + 2, none⟩ = some (.int .i64 y.num) ∧ w'.cell? ⟨(ay.add (i * 6)).block, (ay.add (i * 6)).off + 3, none⟩ = some (.string y.text) ∧ w'.cell? ⟨(ay.add (i * 6)).block, (ay.add (i * 6)).off + 4, none⟩ = some (.slice ypl y.list.length ycl) ∧ w'.cell? ⟨(ay.add (i * 6)).block, (ay.add (i * 6)).off + 5, none⟩ = some (.slice ypo y.obj.length yco))
          (first | go_keep | trace_state)
          (first | (go_at_call 111; refine Hcall.out.mono ?_; rintro e w1 ⟨rfl, hb1⟩; have hb1 := below_of_drew hb1; have Hb1 := Lib.hid hb1; have hk1 := fun (p : Addr) (v : Value) (h : wr.cell? p = some v) => cell_below hb1 h; clear hb1))
        go_wp2_with fail
        go_roundw
        case measure => simp [intOf]; omega
        case rel => exact ⟨i + 1, by go_num, by omega, by omega, by have := Hstep.out; rw [Hd.out, if_neg (by simpa using Hz.out)] at this; exact this.symm, Hr.out.under Hb1.out⟩
      · have hz1 : (x.cmp y != 0) = true := by simpa using hz
        have Hz := Lib.hid hz
        clear hz
        go_wp2_with fail
        go_region_held3 (fun w' => w'.cell? ⟨w.heap.size, 4, none⟩ = some (.slice (some ax) l.length cl) ∧ w'.cell? ⟨w.heap.size + 1, 4, none⟩ = some (.slice (some ay) l'.length dl) ∧ w'.cell? (ax.add (i * 6)) = some (.int .i64 x.kind) ∧ w'.cell? ⟨(ax.add (i * 6)).block, (ax.add (i * 6)).off + 1, none⟩ = some (.bool x.bool) ∧ w'.cell? ⟨(ax.add (i * 6)).block, (ax.add (i * 6)).off + 2, none⟩ = some (.int .i64 x.num) ∧ w'.cell? ⟨(ax.add (i * 6)).block, (ax.add (i * 6)).off + 3, none⟩ = some (.string x.text) ∧ w'.cell? ⟨(ax.add (i * 6)).block, (ax.add (i * 6)).off + 4, none⟩ = some (.slice xpl x.list.length xcl) ∧ w'.cell? ⟨(ax.add (i * 6)).block, (ax.add (i * 6)).off + 5, none⟩ = some (.slice xpo x.obj.length xco) ∧ w'.cell? (ay.add (i * 6)) = some (.int .i64 y.kind) ∧ w'.cell? ⟨(ay.add (i * 6)).block, (ay.add (i * 6)).off + 1, none⟩ = some (.bool y.bool) ∧ w'.cell? ⟨(ay.add (i * 6)).block, (ay.add (i * 6)).off + 2, none⟩ = some (.int .i64 y.num) ∧ w'.cell? ⟨(ay.add (i * 6)).block, (ay.add (i * 6)).off + 3, none⟩ = some (.string y.text) ∧ w'.cell? ⟨(ay.add (i * 6)).block, (ay.add (i * 6)).off + 4, none⟩ = some (.slice ypl y.list.length ycl) ∧ w'.cell? ⟨(ay.add (i * 6)).block, (ay.add (i * 6)).off + 5, none⟩ = some (.slice ypo y.obj.length yco))
          (first | go_keep | trace_state)
          (first | (go_at_call 111; refine Hcall.out.mono ?_; rintro e w1 ⟨rfl, hb1⟩; have hb1 := below_of_drew hb1; have Hb1 := Lib.hid hb1; have hk1 := fun (p : Addr) (v : Value) (h : wr.cell? p = some v) => cell_below hb1 h; clear hb1))
        go_wp2_with fail
        go_ret
        exact ⟨by have := Hstep.out; rw [Hd.out, if_pos (by simpa using Hz.out)] at this; rw [this]; rfl, (Hr.out.under Hb1.out).bel⟩
    · have Hfin := Lib.hid (cmpL_stop hi hi' hlt)
      rw [Hd.out] at Hfin
      by_cases h1 : i < l.length
      · have hd : decide (i < l'.length) = false := decide_eq_false (by omega)
        have hd' : decide ((i : Int) < (l'.length : Int)) = false := decide_eq_false (by omega)
        have hd2 : (i : Int) < (l.length : Int) := by omega
        clear hlt
        go_wp2_with (go_at_call 151; refine (numbers_any _ _ _).mono ?_; rintro e w1 ⟨rfl, rfl⟩)
        go_ret
        exact ⟨by rw [Hfin.out]; rfl, Hr.out.bel⟩
      · have hd : decide (i < l.length) = false := decide_eq_false (by omega)
        have hd' : decide ((i : Int) < (l.length : Int)) = false := decide_eq_false (by omega)
        clear hlt
        go_wp2_with (go_at_call 151; refine (numbers_any _ _ _).mono ?_; rintro e w1 ⟨rfl, rfl⟩)
        go_ret
        exact ⟨by rw [Hfin.out]; rfl, Hr.out.bel⟩

set_option maxRecDepth 100000 in
set_option maxHeartbeats 4000000 in
theorem cmp_obj (l l' : List (Key × V)) (hl : l.length * 104 ≤ 140737488355328) (hl' : l'.length * 104 ≤ 140737488355328) (ih : ∀ x ∈ l, CmpC x.2) (hf : ∀ y ∈ l', y.2.Fits) (hk : ∀ x ∈ l, x.1.size ≤ 140737488355328) (hk' : ∀ y ∈ l', y.1.size ≤ 140737488355328)
    (b b' : Bool) (n n' : Int) (t t' : Key) (pl po ql qo : Option Addr) (ll cl co ll' dl dO : Nat) (w : World) (S T : Nat → Prop) (h : EIn w S l po) (h' : EIn w T l' qo) :
    Calls Try.prog 111 #[.agg (vagg 6 b n t pl ll cl po l.length co), .agg (vagg 6 b' n' t' ql ll' dl qo l'.length dO)] w (IntB (cmpO l l') w) := by
  have HB0 := Lib.hid (Two.new w (vagg 6 b n t pl ll cl po l.length co) (vagg 6 b' n' t' ql ll' dl qo l'.length dO))
  have H := Lib.hid h
  have H' := Lib.hid h'
  have Ih := Lib.hid ih
  have Hf := Lib.hid hf
  have Hk := Lib.hid hk
  have Hk' := Lib.hid hk'
  clear h h' ih hf hk hk'
  go_enter Try.func111, Try.ntmps111
  go_wp2_with fail
  go_loopw [7, 8, 9] (fun v7 v8 v9 wr => ∃ i : Nat, v7 = .int .i64 i ∧ i ≤ l.length ∧ i ≤ l'.length ∧ Hid (cmpO (l.drop i) (l'.drop i) = cmpO l l') ∧ Hid (Two w (vagg 6 b n t pl ll cl po l.length co) (vagg 6 b' n' t' ql ll' dl qo l'.length dO) wr)) (fun v7 _ _ _ => l.length - (intOf v7).toNat)
  case atStart => exact ⟨0, rfl, by omega, by omega, rfl, HB0⟩
  case round =>
    obtain ⟨i, rfl, hi, hi', Hd, Hr⟩ := hrel
    have c5 := Hr.out.bx.cell 5
    have d5 := Hr.out.by_.cell 5
    simp at c5 d5
    by_cases hlt : i < l.length ∧ i < l'.length
    · obtain ⟨h1, h2⟩ := hlt
      obtain ⟨x, hx⟩ : ∃ x, l[i]? = some x := ⟨_, List.getElem?_eq_getElem h1⟩
      obtain ⟨y, hy⟩ : ∃ y, l'[i]? = some y := ⟨_, List.getElem?_eq_getElem h2⟩
      obtain ⟨ax, xpl, xcl, xpo, xco, rfl, hSx, hcx, hvx⟩ := H.out i x hx
      obtain ⟨ay, ypl, ycl, ypo, yco, rfl, hSy, hcy, hvy⟩ := H'.out i y hy
      have hcx' : Cells wr (ax.add (i * 7)) (ecells x.1 x.2 xpl xcl xpo xco) := hcx.keep (S := S) (fun b _ hl => Hr.out.bel.block b hl) (by rw [block_add]; exact hSx)
      have hcy' : Cells wr (ay.add (i * 7)) (ecells y.1 y.2 ypl ycl ypo yco) := hcy.keep (S := T) (fun b _ hl => Hr.out.bel.block b hl) (by rw [block_add]; exact hSy)
      obtain ⟨e0, e1, e2, e3, e4, e5, e6⟩ := hcx'.at7
      obtain ⟨f0, f1, f2, f3, f4, f5, f6⟩ := hcy'.at7
      have hct := texts_any x.1 y.1 (Hk.out x (List.mem_of_getElem? hx)) (Hk'.out y (List.mem_of_getElem? hy))
      have hcall := fun (q : Nat) => Ih.out x (List.mem_of_getElem? hx) y.2 (Hf.out y (List.mem_of_getElem? hy)) (wr.drewN q).drew S T xpl xpo ypl ypo xcl xco ycl yco ((hvx.under Hr.out.bel).drewN q).drew ((hvy.under Hr.out.bel).drewN q).drew
      have hstep := cmpO_drop hx hy
      have Hct := Lib.hid hct
      have Hcall := Lib.hid hcall
      have Hstep := Lib.hid hstep
      clear hcx hcy hcx' hcy' hvx hvy hcall hstep hx hy hct
      have hi0 : (0 : Int) ≤ (i : Int) := by omega
      have hi1 : (i : Int) < (l.length : Int) := by omega
      have hi2 : (i : Int) < (l'.length : Int) := by omega
      by_cases ht : cmpT x.1 y.1 = 0
      · have ht1 : (cmpT x.1 y.1 != 0) = false := by simpa using ht
        have Ht := Lib.hid ht
        clear ht
        go_wp2_with fail
        go_quiet ((go_at_call 152; exact Calls.quiet_of (Hct.out _)))
        have Hr2 := Lib.hid (Hr.out.drewN nq)
        have hc := Hcall.out nq
        go_wp2_with fail
        generalize hW5 : wr.drewN nq = w5 at Hr2 hc ⊢
        have g0 : ∀ p, wr.cell? p = w5.cell? p := fun p => by rw [← hW5]; rfl
        rw [g0] at c5 d5 e0 e1 e2 e3 e4 e5 e6 f0 f1 f2 f3 f4 f5 f6
        clear hW5 g0 Hcall
        have Hc := Lib.hid hc
        clear hc
        by_cases hz : x.2.cmp y.2 = 0
        · have hz1 : (x.2.cmp y.2 != 0) = false := by simpa using hz
          have Hz := Lib.hid hz
          clear hz
          go_region_held3 (fun w' => w'.cell? ⟨w.heap.size, 5, none⟩ = some (.slice (some ax) l.length co) ∧ w'.cell? ⟨w.heap.size + 1, 5, none⟩ = some (.slice (some ay) l'.length dO) ∧ w'.cell? ⟨(ax.add (i * 7)).block, (ax.add (i * 7)).off + 1, none⟩ = some (.int .i64 x.2.kind) ∧ w'.cell? ⟨(ax.add (i * 7)).block, (ax.add (i * 7)).off + 2, none⟩ = some (.bool x.2.bool) ∧ w'.cell? ⟨(ax.add (i * 7)).block, (ax.add (i * 7)).off + 3, none⟩ = some (.int .i64 x.2.num) ∧ w'.cell? ⟨(ax.add (i * 7)).block, (ax.add (i * 7)).off + 4, none⟩ = some (.string x.2.text) ∧ w'.cell? ⟨(ax.add (i * 7)).block, (ax.add (i * 7)).off + 5, none⟩ = some (.slice xpl x.2.list.length xcl) ∧ w'.cell? ⟨(ax.add (i * 7)).block, (ax.add (i * 7)).off + 6, none⟩ = some (.slice xpo x.2.obj.length xco) ∧ w'.cell? ⟨(ay.add (i * 7)).block, (ay.add (i * 7)).off + 1, none⟩ = some (.int .i64 y.2.kind) ∧ w'.cell? ⟨(ay.add (i * 7)).block, (ay.add (i * 7)).off + 2, none⟩ = some (.bool y.2.bool) ∧ w'.cell? ⟨(ay.add (i * 7)).block, (ay.add (i * 7)).off + 3, none⟩ = some (.int .i64 y.2.num) ∧ w'.cell? ⟨(ay.add (i * 7)).block, (ay.add (i * 7)).off + 4, none⟩ = some (.string y.2.text) ∧ w'.cell? ⟨(ay.add (i * 7)).block, (ay.add (i * 7)).off + 5, none⟩ = some (.slice ypl y.2.list.length ycl) ∧ w'.cell? ⟨(ay.add (i * 7)).block, (ay.add (i * 7)).off + 6, none⟩ = some (.slice ypo y.2.obj.length yco))
            (first | go_keep | trace_state)
            (first | (go_at_call 111; refine Hc.out.mono ?_; rintro e w1 ⟨rfl, hb1⟩; have hb1 := below_of_drew hb1; have Hb1 := Lib.hid hb1; have hk1 := fun (p : Addr) (v : Value) (h : w5.cell? p = some v) => cell_below hb1 h; clear hb1))
          go_wp2_with fail
          go_roundw
          case measure => simp [intOf]; omega
          case rel => exact ⟨i + 1, by go_num, by omega, by omega, by have := Hstep.out; rw [Hd.out, if_neg (by simpa using Ht.out), if_neg (by simpa using Hz.out)] at this; exact this.symm, Hr2.out.under Hb1.out⟩
        · have hz1 : (x.2.cmp y.2 != 0) = true := by simpa using hz
          have Hz := Lib.hid hz
          clear hz
          go_region_held3 (fun w' => w'.cell? ⟨w.heap.size, 5, none⟩ = some (.slice (some ax) l.length co) ∧ w'.cell? ⟨w.heap.size + 1, 5, none⟩ = some (.slice (some ay) l'.length dO) ∧ w'.cell? ⟨(ax.add (i * 7)).block, (ax.add (i * 7)).off + 1, none⟩ = some (.int .i64 x.2.kind) ∧ w'.cell? ⟨(ax.add (i * 7)).block, (ax.add (i * 7)).off + 2, none⟩ = some (.bool x.2.bool) ∧ w'.cell? ⟨(ax.add (i * 7)).block, (ax.add (i * 7)).off + 3, none⟩ = some (.int .i64 x.2.num) ∧ w'.cell? ⟨(ax.add (i * 7)).block, (ax.add (i * 7)).off + 4, none⟩ = some (.string x.2.text) ∧ w'.cell? ⟨(ax.add (i * 7)).block, (ax.add (i * 7)).off + 5, none⟩ = some (.slice xpl x.2.list.length xcl) ∧ w'.cell? ⟨(ax.add (i * 7)).block, (ax.add (i * 7)).off + 6, none⟩ = some (.slice xpo x.2.obj.length xco) ∧ w'.cell? ⟨(ay.add (i * 7)).block, (ay.add (i * 7)).off + 1, none⟩ = some (.int .i64 y.2.kind) ∧ w'.cell? ⟨(ay.add (i * 7)).block, (ay.add (i * 7)).off + 2, none⟩ = some (.bool y.2.bool) ∧ w'.cell? ⟨(ay.add (i * 7)).block, (ay.add (i * 7)).off + 3, none⟩ = some (.int .i64 y.2.num) ∧ w'.cell? ⟨(ay.add (i * 7)).block, (ay.add (i * 7)).off + 4, none⟩ = some (.string y.2.text) ∧ w'.cell? ⟨(ay.add (i * 7)).block, (ay.add (i * 7)).off + 5, none⟩ = some (.slice ypl y.2.list.length ycl) ∧ w'.cell? ⟨(ay.add (i * 7)).block, (ay.add (i * 7)).off + 6, none⟩ = some (.slice ypo y.2.obj.length yco))
            (first | go_keep | trace_state)
            (first | (go_at_call 111; refine Hc.out.mono ?_; rintro e w1 ⟨rfl, hb1⟩; have hb1 := below_of_drew hb1; have Hb1 := Lib.hid hb1; have hk1 := fun (p : Addr) (v : Value) (h : w5.cell? p = some v) => cell_below hb1 h; clear hb1))
          go_wp2_with fail
          go_ret
          exact ⟨by have := Hstep.out; rw [Hd.out, if_neg (by simpa using Ht.out), if_pos (by simpa using Hz.out)] at this; rw [this]; rfl, (Hr2.out.under Hb1.out).bel⟩
      · have ht1 : (cmpT x.1 y.1 != 0) = true := by simpa using ht
        have Ht := Lib.hid ht
        clear ht
        go_wp2_with fail
        go_quiet ((go_at_call 152; exact Calls.quiet_of (Hct.out _)))
        go_wp2_with fail
        go_ret
        exact ⟨by have := Hstep.out; rw [Hd.out, if_pos (by simpa using Ht.out)] at this; rw [this]; rfl, (Hr.out.drewN nq).bel⟩
    · have Hfin := Lib.hid (cmpO_stop hi hi' hlt)
      rw [Hd.out] at Hfin
      by_cases h1 : i < l.length
      · have hd : decide (i < l'.length) = false := decide_eq_false (by omega)
        have hd' : decide ((i : Int) < (l'.length : Int)) = false := decide_eq_false (by omega)
        have hd2 : (i : Int) < (l.length : Int) := by omega
        clear hlt
        go_wp2_with (go_at_call 151; refine (numbers_any _ _ _).mono ?_; rintro e w1 ⟨rfl, rfl⟩)
        go_ret
        exact ⟨by rw [Hfin.out]; rfl, Hr.out.bel⟩
      · have hd : decide (i < l.length) = false := decide_eq_false (by omega)
        have hd' : decide ((i : Int) < (l.length : Int)) = false := decide_eq_false (by omega)
        clear hlt
        go_wp2_with (go_at_call 151; refine (numbers_any _ _ _).mono ?_; rintro e w1 ⟨rfl, rfl⟩)
        go_ret
        exact ⟨by rw [Hfin.out]; rfl, Hr.out.bel⟩

end Go.Proofs.Ytajcmpafbcpicaa
