/- (*log.Log).At of a version that is kept, or is not yet; (tree.Tree).Is. Conditions: a log in memory. -/
import Derived.Test.YtajcmpafbcpicaaLog2
import Derived.Test.YtajcmpafbcpicaaPtrEq
set_option linter.unusedVariables false
set_option linter.unusedSimpArgs false
namespace Go.Proofs.Ytajcmpafbcpicaa
open Go.RowKit

set_option maxRecDepth 100000 in
set_option maxHeartbeats 1000000 in
theorem tis_of (p q : Option Addr) (w : World) (r : Bool) (hE : ∀ W, Below w.heap.size w W → (binOp .eql 30 (.pointer p) (.pointer q)).run Try.prog W = .ok (.bool r) W) :
    Calls Try.prog 64 #[.agg #[.pointer p], .agg #[.pointer q]] w fun e w' => e = .returned (.bool r) ∧ Below w.heap.size w w' := by
  have hb := bel_al (bel_new w (.cells #[.pointer p] 61)) (.cells #[.pointer q] 61)
  have he := hE _ hb
  have Hb := Lib.hid hb
  clear hb hE
  go_enter Try.func64, Try.ntmps64
  go_wp2_with fail
  go_ret
  exact ⟨rfl, Hb.out⟩
theorem is_same (a : Addr) (w : World) : Calls Try.prog 64 #[.agg #[.pointer (some a)], .agg #[.pointer (some a)]] w fun e w' => e = .returned (.bool true) ∧ Below w.heap.size w w' :=
  tis_of _ _ w true fun W _ => run_eql_node W a

set_option maxRecDepth 100000 in
set_option maxHeartbeats 4000000 in
/-- At, of a version that is kept. -/
theorem lat_kept {w : World} {g gr : Nat} {ring : Array Value} {next n : Nat} (h : LogIn w g gr ring next n) (v : Nat) (hnn : n ≤ next) (hv : next - n ≤ v) (hv2 : v < next) (op : Option Addr) (hop : ring[v % ring.size]? = some (.pointer op)) :
    Calls Try.prog 63 #[pa g, .int .u64 (v : Nat)] w fun e w' => e = .returned (.tuple #[.agg #[.pointer op], .bool true]) ∧ Below w.heap.size w w' := by
  have hbx := bel_new w (.cells #[.pointer none] 61)
  have h1 := h.under hbx
  have c0 := h1.log.cell 0
  have c1 := h1.log.cell 1
  have c2 := h1.log.cell 2
  simp at c0 c1 c2
  have hx := h.nx
  have hk := h.nk
  have hm := h.most
  have Hl := Lib.hid (llen_any (h1.drew 1))
  have bx := Blk.new w 61 #[.pointer none]
  have hz : ((n : Int) == 0) = false := beq_eq_false_iff_ne.2 (by omega)
  have hz' : ((n : Int) = 0) = False := eq_false (by omega)
  have hz2 : (n = 0) = False := eq_false (by omega)
  have hge : ((v : Int) ≥ (next : Int)) = False := eq_false (by omega)
  have hge' : ((next : Int) ≤ (v : Int)) = False := eq_false (by omega)
  have hwn : IntKind.u64.wrap (n : Int) = (n : Int) := IntWalk.u64_in _ (by omega)
  have hws : IntKind.u64.wrap ((next : Int) - (n : Int)) = (next : Int) - (n : Int) := IntWalk.u64_in _ (by omega)
  have hlt : ((v : Int) < (next : Int) - (n : Int)) = False := eq_false (by omega)
  have Hbx := Lib.hid hbx
  have Hp := Lib.hid (place_any (h1.drew 1) v (by omega))
  have hr0 := h1.row.cell (v % ring.size)
  rw [hop] at hr0
  have hgl := h.row.lt
  clear h h1 hbx
  go_enter Try.func63, Try.ntmps63
  go_upto_region 1 with fail
  go_region_held3 (fun w' => w'.cell? ⟨g, 1, none⟩ = some (.int .u64 (next : Nat)) ∧ w'.cell? ⟨g, 2, none⟩ = some (.int .i64 (n : Nat))) (first | go_keep | trace_state)
    (first
      | (go_at_call 59; refine Hl.out.mono ?_; rintro e w1 ⟨rfl, rfl⟩))
  have b1 := bx.drewN 1
  have f1 := b1.frozen 0
  simp at f1
  generalize v % ring.size = r at *
  go_wp2_with (go_at_call 119; refine Hp.out.mono ?_; rintro e w1 ⟨rfl, q, rfl⟩)
  have b2 := ((bx.drewN 1).drewN q).set_ 0 (.pointer op)
  simp at b2
  refine bodyPost_ret (results_cell_tmp2 (cs := [.pointer op]) rfl rfl (Try.isAgg61 _) (Try.sizeOf61 _) b2.cells) rfl ?_
  have h0 : Below w.heap.size w ((w.alloc (.cells #[.pointer none] 61)).drewN (1 + q)) := bel_tr Hbx.out (below_drewN_self _ _)
  exact ⟨rfl, h0.setCell (p := ⟨w.heap.size, 0, none⟩) (Nat.le_refl _) _⟩
end Go.Proofs.Ytajcmpafbcpicaa
