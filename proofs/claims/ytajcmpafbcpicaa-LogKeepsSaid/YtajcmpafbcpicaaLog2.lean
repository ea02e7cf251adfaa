/- (*log.Log).Put and At. Conditions: a log in memory. -/
import Derived.Test.YtajcmpafbcpicaaLog1
set_option linter.unusedVariables false
set_option linter.unusedSimpArgs false
namespace Go.Proofs.Ytajcmpafbcpicaa
open Go.RowKit

def putOk (next n v : Nat) : Prop := v ≤ 4611686018427387903 ∧ (n = 0 ∨ v = next)
def LPutPost (w : World) (g gr : Nat) (ring : Array Value) (next n : Nat) (code : Nat) (e : Ending) (w' : World) : Prop :=
  e = .returned (.int .i64 (code : Nat)) ∧ LogIn w' g gr ring next n ∧ (∀ B, B ≤ g → B ≤ gr → B ≤ w.heap.size → Below B w w') ∧ ∀ b, b < w.heap.size → b ≠ g → b ≠ gr → w'.heap[b]? = w.heap[b]?

theorem log9 {w : World} {g gr : Nat} {ring : Array Value} {next n : Nat} (h : LogIn w g gr ring next n) (k r : Nat) (hr : r < ring.size) (u : Value) :
    Blk ((w.drewN k).setCell ⟨gr, r, none⟩ u) g 95 #[.slice (some ⟨gr, 0, none⟩) ring.size ring.size, .int .u64 (next : Nat), .int .i64 (n : Nat)] ∧
    Blk ((w.drewN k).setCell ⟨gr, r, none⟩ u) gr 61 (ring.setIfInBounds r u) ∧
    (∀ B, B ≤ gr → B ≤ w.heap.size → Below B w ((w.drewN k).setCell ⟨gr, r, none⟩ u)) ∧ ∀ b, b ≠ gr → ((w.drewN k).setCell ⟨gr, r, none⟩ u).heap[b]? = w.heap[b]? :=
  ⟨(h.log.drewN k).far h.ne u, (h.row.drewN k).set_ r u, fun B h1 h2 => by
    have h0 : Below B w (w.drewN k) := ⟨rfl, rfl, rfl, Nat.le_refl _, fun _ _ => rfl⟩
    exact h0.setCell (p := ⟨gr, r, none⟩) h1 u, fun b hb => Below.heap_setCell (w.drewN k) ⟨gr, r, none⟩ u b hb⟩
theorem below_two {B : Nat} {w w1 w2 : World} (h : Below B w w1) (k : Below B w1 w2) : Below B w w2 :=
  ⟨k.os.trans h.os, k.tape.trans h.tape, k.output.trans h.output, Nat.le_trans h.size k.size, fun b hb => (k.block b hb).trans (h.block b hb)⟩

set_option maxRecDepth 100000 in
set_option maxHeartbeats 4000000 in
theorem lput_ok {w : World} {g gr : Nat} {ring : Array Value} {next n : Nat} (h : LogIn w g gr ring next n) (v : Nat) (op : Option Addr) (hok : putOk next n v) :
    Calls Try.prog 58 #[pa g, .int .u64 (v : Nat), .agg #[(Value.pointer op)]] w (LPutPost w g gr (ring.setIfInBounds (v % ring.size) (Value.pointer op)) (v + 1) (min (n + 1) ring.size) 0) := by
  have hn := h.nx
  have ho := h.one
  have hm := h.most
  have hk := h.nk
  have hv := hok.1
  have hgr := h.row.lt
  have hgg := h.log.lt
  have hge1 : (gr = w.heap.size) = False := eq_false (by omega)
  have hge2 : (w.heap.size = gr) = False := eq_false (by omega)
  have hge3 : gr ≠ w.heap.size := by omega
  have hge4 : w.heap.size ≠ gr := by omega
  have hbx := bel_new w (.cells #[(Value.pointer op)] 61)
  have h1 := h.under hbx
  have c0 := h1.log.cell 0
  have c1 := h1.log.cell 1
  have c2 := h1.log.cell 2
  simp at c0 c1 c2
  have bx : (w.alloc (.cells #[(Value.pointer op)] 61)).cell? ⟨w.heap.size, 0, none⟩ = some (Value.pointer op) := (Blk.new w 61 #[(Value.pointer op)]).cell 0
  have hlt : v % ring.size < ring.size := Nat.mod_lt _ (by omega)
  have hfr := h1.row.frozen (v % ring.size)
  have hcl := h1.row.cell (v % ring.size)
  obtain ⟨old, hold⟩ : ∃ u, ring[v % ring.size]? = some u := ⟨_, Array.getElem?_eq_getElem hlt⟩
  rw [hold] at hcl
  have Hp := Lib.hid (fun k => place_any (h1.drew k) v (by omega))
  have H1 := Lib.hid h1
  have Hbx := Lib.hid hbx
  have hz : ((ring.size : Int) == 0) = false := beq_eq_false_iff_ne.2 (by omega)
  have hz' : ((ring.size : Int) = 0) = False := eq_false (by omega)
  have hz2 : (ring.size = 0) = False := eq_false (by omega)
  have hvm : ((v : Int) > 4611686018427387903) = False := eq_false (by omega)
  have hvm' : ((4611686018427387903 : Int) < (v : Int)) = False := eq_false (by omega)
  generalize hr : v % ring.size = r at *
  clear h h1 hbx
  rcases Nat.eq_zero_or_pos n with hn0 | hn0
  case' inl =>
    have hg0 : ((n : Int) > 0) = False := eq_false (by omega)
    have hg0' : ((0 : Int) < (n : Int)) = False := eq_false (by omega)
    have hg1 : (0 < n) = False := eq_false (by omega)
  case' inr =>
    obtain rfl : v = next := by rcases hok.2 with h | h; exact absurd h (by omega); exact h
    have hg0 : ((n : Int) > 0) = True := eq_true (by omega)
    have hg0' : ((0 : Int) < (n : Int)) = True := eq_true (by omega)
  all_goals
    go_enter Try.func58, Try.ntmps58
    go_upto_region 9 with fail
    clear c0 c1 c2
    go_region_held3 (fun w' => w'.cell? ⟨w.heap.size, 0, none⟩ = some (Value.pointer op)) (first | go_keep | trace_state)
      (first
        | (go_at_call 119; refine (Hp.out 1).mono ?_; rintro e w1 ⟨rfl, q, rfl⟩; have hk1 := fun (p : Addr) (v : Value) (h : (w.alloc (.cells #[(Value.pointer op)] 61)).cell? p = some v) => (show (((w.alloc (.cells #[(Value.pointer op)] 61)).drewN 1).drewN q).cell? p = some v from h)))
    all_goals
      have f9 := log9 H1.out (1 + q) r hlt (Value.pointer op)
      generalize (((w.alloc (.cells #[Value.pointer op] 61)).drewN (1 + q)).setCell ⟨gr, r, none⟩ (Value.pointer op)) = w9 at *
      obtain ⟨l9, r9, b9, k9⟩ := f9
      have c0 := l9.cell 0
      have c1 := l9.cell 1
      have c2 := l9.cell 2
      have f1 := l9.frozen 1
      have f2 := l9.frozen 2
      simp at c0 c1 c2 f1 f2
      have hwv : IntKind.u64.wrap ((v : Int) + 1) = (v : Int) + 1 := IntWalk.u64_in _ (by omega)
      have hwn : IntKind.i64.wrap ((n : Int) + 1) = (n : Int) + 1 := IntWalk.i64_in _ (by omega)
      go_upto_region 11 with fail
      have l10 := l9.set_ 1 (.int .u64 ((v : Int) + 1))
      have r10 := r9.far (p := ⟨g, 1, none⟩) (fun e => H1.out.ne e.symm) (.int .u64 ((v : Int) + 1))
      have b10 := fun B h1 h2 h3 => (b9 B h2 h3).setCell (p := ⟨g, 1, none⟩) h1 (.int .u64 ((v : Int) + 1))
      have k10 : ∀ b, b ≠ g → b ≠ gr → (w9.setCell ⟨g, 1, none⟩ (.int .u64 ((v : Int) + 1))).heap[b]? = (w.alloc (.cells #[Value.pointer op] 61)).heap[b]? := fun b h1 h2 => (Below.heap_setCell w9 ⟨g, 1, none⟩ _ b h1).trans (k9 b h2)
      generalize w9.setCell ⟨g, 1, none⟩ (.int .u64 ((v : Int) + 1)) = w10 at *
      clear c0 c1 c2 f1 f2
      have c0 := l10.cell 0
      have c2 := l10.cell 2
      have f2 := l10.frozen 2
      simp at c0 c2 f2
      go_region
      have key : ∀ X : Int, X = ((min (n + 1) ring.size : Nat) : Int) → LPutPost w g gr (ring.setIfInBounds r (Value.pointer op)) (v + 1) (min (n + 1) ring.size) 0 (.returned (.int .i64 0)) (w10.setCell ⟨g, 2, none⟩ (.int .i64 X)).drew := fun X hX => by
        subst hX
        have l11 := (l10.set_ 2 (.int .i64 ((min (n + 1) ring.size : Nat) : Int))).drew
        refine ⟨rfl, ⟨by simpa using l11, (r10.far (p := ⟨g, 2, none⟩) (fun e => H1.out.ne e.symm) _).drew, H1.out.ne, by simpa using ho, by simpa using hm, ?_, by omega⟩, fun B h1 h2 h3 => ?_, fun b h1 h2 h3 => ((Below.heap_setCell w10 ⟨g, 2, none⟩ _ b h2).trans (k10 b h2 h3)).trans (Hbx.out.block b h1)⟩
        · rw [Array.size_setIfInBounds]; omega
        · exact (below_two ((Below.refl B w).alloc h3 _) ((b10 B h1 h2 (by rw [World.size_alloc]; omega)).setCell (p := ⟨g, 2, none⟩) h1 _)).drew
      go_wp2_with fail
      all_goals go_ret
      all_goals first
        | (refine key _ ?_; first | omega | (split <;> omega))
        | (have e1 : min (n + 1) ring.size = 1 := by omega
           rw [e1] at key
           exact key 1 rfl)

/-- Put, the ring's own cells aside. -/
theorem lput_next {w : World} {g gr : Nat} {ring : Array Value} {next n K : Nat} (h : LogIn w g gr ring next n) (hK : ring.size = K) (v : Nat) (op : Option Addr) (hok : putOk next n v) :
    Calls Try.prog 58 #[pa g, .int .u64 (v : Nat), .agg #[.pointer op]] w fun e w' => e = .returned (.int .i64 0) ∧ ∃ ring', ring'.size = K ∧ LogIn w' g gr ring' (v + 1) (min (n + 1) K) ∧ (∀ B, B ≤ g → B ≤ gr → B ≤ w.heap.size → Below B w w') ∧ ∀ b, b < w.heap.size → b ≠ g → b ≠ gr → w'.heap[b]? = w.heap[b]? := by
  refine (lput_ok h v op hok).mono ?_
  rintro e w' ⟨rfl, h1, h2, h3⟩
  subst hK
  exact ⟨rfl, ring.setIfInBounds (v % ring.size) (.pointer op), by simp, h1, h2, h3⟩

theorem lput_no {w : World} {g gr : Nat} {ring : Array Value} {next n : Nat} (h : LogIn w g gr ring next n) (v : Nat) (op : Option Addr) (code : Nat)
    (hc : (v > 4611686018427387903 ∧ code = 7) ∨ (v ≤ 4611686018427387903 ∧ 0 < n ∧ v < next ∧ code = 15) ∨ (v ≤ 4611686018427387903 ∧ 0 < n ∧ next < v ∧ code = 14)) :
    Calls Try.prog 58 #[pa g, .int .u64 (v : Nat), .agg #[(Value.pointer op)]] w fun e w' => e = .returned (.int .i64 (code : Nat)) ∧ Below w.heap.size w w' := by
  have hbx := bel_new w (.cells #[(Value.pointer op)] 61)
  have h1 := h.under hbx
  have ho := h.one
  have c0 := h1.log.cell 0
  have c1 := h1.log.cell 1
  have c2 := h1.log.cell 2
  simp at c0 c1 c2
  have hz : ((ring.size : Int) == 0) = false := beq_eq_false_iff_ne.2 (by omega)
  have hz' : ((ring.size : Int) = 0) = False := eq_false (by omega)
  have hz2 : (ring.size = 0) = False := eq_false (by omega)
  have Hbx := Lib.hid hbx
  clear h1 hbx h
  rcases hc with ⟨hv, rfl⟩ | ⟨hv, hn, hx, rfl⟩ | ⟨hv, hn, hx, rfl⟩
  · have hvm : ((v : Int) > 4611686018427387903) = True := eq_true (by omega)
    have hvm' : ((4611686018427387903 : Int) < (v : Int)) = True := eq_true (by omega)
    go_enter Try.func58, Try.ntmps58
    go_wp2_with fail
    go_ret
    exact ⟨rfl, Hbx.out⟩
  · have hvm : ((v : Int) > 4611686018427387903) = False := eq_false (by omega)
    have hvm' : ((4611686018427387903 : Int) < (v : Int)) = False := eq_false (by omega)
    have hg0 : ((n : Int) > 0) = True := eq_true (by omega)
    have hg0' : ((0 : Int) < (n : Int)) = True := eq_true (by omega)
    have hlt : ((v : Int) < (next : Int)) = True := eq_true (by omega)
    go_enter Try.func58, Try.ntmps58
    go_wp2_with fail
    go_ret
    exact ⟨rfl, Hbx.out⟩
  · have hvm : ((v : Int) > 4611686018427387903) = False := eq_false (by omega)
    have hvm' : ((4611686018427387903 : Int) < (v : Int)) = False := eq_false (by omega)
    have hg0 : ((n : Int) > 0) = True := eq_true (by omega)
    have hg0' : ((0 : Int) < (n : Int)) = True := eq_true (by omega)
    have hlt : ((v : Int) < (next : Int)) = False := eq_false (by omega)
    have hlt2 : ((next : Int) < (v : Int)) = True := eq_true (by omega)
    have hlt3 : ((v : Int) > (next : Int)) = True := eq_true (by omega)
    go_enter Try.func58, Try.ntmps58
    go_wp2_with fail
    go_ret
    exact ⟨rfl, Hbx.out⟩

set_option maxRecDepth 100000 in
set_option maxHeartbeats 4000000 in
/-- At, of a version that is too old. -/
theorem lat_old {w : World} {g gr : Nat} {ring : Array Value} {next n : Nat} (h : LogIn w g gr ring next n) (v : Nat) (h0 : 0 < n) (hnn : n ≤ next) (hv : v < next - n) :
    Calls Try.prog 63 #[pa g, .int .u64 (v : Nat)] w fun e w' => e = .returned (.tuple #[.agg #[.pointer none], .bool false]) ∧ Below w.heap.size w w' := by
  have hbx := bel_new w (.cells #[.pointer none] 61)
  have h1 := h.under hbx
  have c0 := h1.log.cell 0
  have c1 := h1.log.cell 1
  have c2 := h1.log.cell 2
  simp at c0 c1 c2
  have hx := h.nx
  have hk := h.nk
  have hm := h.most
  have Hl := Lib.hid (llen_any (h1.drew 1))
  have bx := Blk.new w 61 #[.pointer none]
  have hz : ((n : Int) == 0) = false := beq_eq_false_iff_ne.2 (by omega)
  have hz' : ((n : Int) = 0) = False := eq_false (by omega)
  have hz2 : (n = 0) = False := eq_false (by omega)
  have hge : ((v : Int) ≥ (next : Int)) = False := eq_false (by omega)
  have hge' : ((next : Int) ≤ (v : Int)) = False := eq_false (by omega)
  have hwn : IntKind.u64.wrap (n : Int) = (n : Int) := IntWalk.u64_in _ (by omega)
  have hws : IntKind.u64.wrap ((next : Int) - (n : Int)) = (next : Int) - (n : Int) := IntWalk.u64_in _ (by omega)
  have hlt : ((v : Int) < (next : Int) - (n : Int)) = True := eq_true (by omega)
  have Hbx := Lib.hid hbx
  clear h h1 hbx
  go_enter Try.func63, Try.ntmps63
  go_upto_region 1 with fail
  go_region_held3 (fun w' => w'.cell? ⟨g, 1, none⟩ = some (.int .u64 (next : Nat)) ∧ w'.cell? ⟨g, 2, none⟩ = some (.int .i64 (n : Nat))) (first | go_keep | trace_state)
    (first
      | (go_at_call 59; refine Hl.out.mono ?_; rintro e w1 ⟨rfl, rfl⟩))
  have b1 := bx.drewN 1
  have f1 := b1.frozen 0
  have b2 := b1.set_ 0 (.pointer none)
  simp at b2 f1
  go_wp2_with fail
  refine bodyPost_ret (results_cell_tmp2 (cs := [.pointer none]) rfl rfl (Try.isAgg61 _) (Try.sizeOf61 _) b2.cells) rfl ?_
  exact ⟨rfl, Hbx.out.drew.setCell (p := ⟨w.heap.size, 0, none⟩) (Nat.le_refl _) _⟩
end Go.Proofs.Ytajcmpafbcpicaa
