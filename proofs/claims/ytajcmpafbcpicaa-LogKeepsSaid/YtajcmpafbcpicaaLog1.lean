/- The log's functions, over its memory: a block of three cells, and the ring's. Conditions: a ring of one at least. -/
import Derived.Test.YtajcmpafbcpicaaTrees
set_option linter.unusedVariables false
set_option linter.unusedSimpArgs false
namespace Go.Proofs.Ytajcmpafbcpicaa
open Go.RowKit

structure LogIn (w : World) (g gr : Nat) (ring : Array Value) (next n : Nat) : Prop where
  log : Blk w g 95 #[.slice (some ⟨gr, 0, none⟩) ring.size ring.size, .int .u64 (next : Nat), .int .i64 (n : Nat)]
  row : Blk w gr 61 ring
  ne : g ≠ gr
  one : 1 ≤ ring.size
  most : ring.size ≤ 1024
  nk : n ≤ ring.size
  nx : next ≤ 4611686018427387904
theorem LogIn.drew {w : World} {g gr : Nat} {ring : Array Value} {next n : Nat} (h : LogIn w g gr ring next n) (k : Nat) : LogIn (w.drewN k) g gr ring next n := ⟨h.log, h.row, h.ne, h.one, h.most, h.nk, h.nx⟩
theorem LogIn.under {w w' : World} {g gr : Nat} {ring : Array Value} {next n : Nat} (h : LogIn w g gr ring next n) (hb : Below w.heap.size w w') : LogIn w' g gr ring next n := ⟨h.log.under hb, h.row.under hb, h.ne, h.one, h.most, h.nk, h.nx⟩

theorem llen_any {w : World} {g gr : Nat} {ring : Array Value} {next n : Nat} (h : LogIn w g gr ring next n) : Calls Try.prog 59 #[pa g] w fun e w' => e = .returned (.int .i64 (n : Nat)) ∧ w = w' := by
  have c0 := h.log.cell 0
  have c1 := h.log.cell 1
  have c2 := h.log.cell 2
  simp at c0 c1 c2
  go_enter Try.func59, Try.ntmps59
  go_wp2_with fail
  go_ret
  exact ⟨rfl, rfl⟩

theorem lnewest_any {w : World} {g gr : Nat} {ring : Array Value} {next n : Nat} (h : LogIn w g gr ring next n) (h0 : 0 < n) (hx : 0 < next) : Calls Try.prog 61 #[pa g] w fun e w' => e = .returned (.tuple #[.int .u64 (next - 1 : Nat), .bool true]) ∧ w = w' := by
  have c0 := h.log.cell 0
  have c1 := h.log.cell 1
  have c2 := h.log.cell 2
  simp at c0 c1 c2
  have hn := h.nx
  have Hl := Lib.hid (llen_any h)
  have hz : ((n : Int) = 0) = False := by simp; omega
  go_enter Try.func61, Try.ntmps61
  go_wp2_with (go_at_call 59; refine Hl.out.mono ?_; rintro e w1 ⟨rfl, rfl⟩)
  go_ret2
  refine ⟨?_, rfl⟩
  rw [show ((next - 1 : Nat) : Int) = (next : Int) - 1 by omega]
  rfl

set_option maxRecDepth 100000 in
set_option maxHeartbeats 4000000 in
theorem loldest_any {w : World} {g gr : Nat} {ring : Array Value} {next n : Nat} (h : LogIn w g gr ring next n) (h0 : 0 < n) (hx : n ≤ next) : Calls Try.prog 68 #[pa g] w fun e w' => e = .returned (.tuple #[.int .u64 (next - n : Nat), .bool true]) ∧ Below w.heap.size w w' := by
  have c0 := h.log.cell 0
  have c1 := h.log.cell 1
  have c2 := h.log.cell 2
  simp at c0 c1 c2
  have hn := h.nx
  have Hl := Lib.hid (llen_any h)
  have hz : ((n : Int) = 0) = False := by simp; omega
  go_enter Try.func68, Try.ntmps68
  go_wp2_with (go_at_call 59; refine Hl.out.mono ?_; rintro e w1 ⟨rfl, rfl⟩)
  go_region_held3 (fun w' => w'.cell? ⟨g, 1, none⟩ = some (.int .u64 (next : Nat)) ∧ w'.cell? ⟨g, 2, none⟩ = some (.int .i64 (n : Nat))) (first | go_keep | trace_state) (fail)
  have hm := h.most
  have hk := h.nk
  rw [show IntKind.u64.wrap (n : Int) = (n : Int) from IntWalk.u64_in _ (by omega), show IntKind.u64.wrap ((next : Int) - (n : Int)) = ((next - n : Nat) : Int) by rw [IntWalk.u64_in _ (by omega)]; omega]
  go_wp2_with fail
  go_ret2
  exact ⟨rfl, (Below.refl _ w).drew⟩

set_option maxRecDepth 100000 in
set_option maxHeartbeats 4000000 in
theorem place_any {w : World} {g gr : Nat} {ring : Array Value} {next n : Nat} (h : LogIn w g gr ring next n) (v : Nat) (hv : v < 18446744073709551616) : Calls Try.prog 119 #[pa g, .int .u64 (v : Nat)] w fun e w' => e = .returned (.pointer (some ⟨gr, v % ring.size, none⟩)) ∧ ∃ k, w' = w.drewN k := by
  have c0 := h.log.cell 0
  have c1 := h.log.cell 1
  have c2 := h.log.cell 2
  simp at c0 c1 c2
  have hn := h.nx
  have ho := h.one
  have hm := h.most
  go_enter Try.func119, Try.ntmps119
  have hw : IntKind.u64.wrap (ring.size : Int) = (ring.size : Int) := IntWalk.u64_in _ (by omega)
  have hne : ((ring.size : Int) == 0) = false := beq_eq_false_iff_ne.2 (by omega)
  have hne' : ((ring.size : Int) = 0) = False := eq_false (by omega)
  have hne2 : (ring.size = 0) = False := eq_false (by omega)
  have hlt : v % ring.size < ring.size := Nat.mod_lt _ (by omega)
  have hmd' : (v : Int) % (ring.size : Int) = ((v % ring.size : Nat) : Int) := by simp
  generalize v % ring.size = r at *
  have hmd : Int.tmod (v : Int) (ring.size : Int) = (r : Int) := by rw [Int.tmod_eq_emod_of_nonneg (by omega)]; exact hmd'
  have hlt' : (r : Int) < (ring.size : Int) := by omega
  have hge' : (0 : Int) ≤ (r : Int) := by omega
  have hwr : IntKind.u64.wrap (r : Int) = (r : Int) := IntWalk.u64_in _ (by omega)
  go_upto_region 1 with fail
  go_region_held3 (fun w' => w'.cell? ⟨g, 0, none⟩ = some (.slice (some ⟨gr, 0, none⟩) ring.size ring.size)) (first | go_keep | trace_state) (fail)
  go_wp2_with fail
  go_ret
  exact ⟨rfl, 1, rfl⟩
theorem infoTz : (Try.prog.info? 61).map (fun i => (i.zero.map (·.cells), i.size, i.bytes)) = some (some #[.pointer none], 1, 16) := by kernel_rfl
theorem mk_trees (k : Nat) (h2 : k ≤ 1024) (w : World) : (Instr.makeSlice 70 (.int .i64 (k : Nat)) (.int .i64 (k : Nat))).run Try.prog w = .ok (.slice (some ⟨w.heap.size, 0, none⟩) k k) (w.alloc (.cells (madeCells #[.pointer none] k) 61)) := by
  obtain ⟨i, hi, he⟩ := Option.map_eq_some_iff.1 infoTz
  simp only [Prod.mk.injEq] at he
  obtain ⟨h1, h3, h4⟩ := he
  obtain ⟨z, hz, hzc⟩ := Option.map_eq_some_iff.1 h1
  have hr := run_make (P := Try.prog) w 70 61 i z Try.underlying70 hi hz .i64 .i64 k k (by omega) (Int.le_refl _) (by rw [h4]; omega) (by omega)
  simp only [Int.toNat_natCast, h3, Nat.mul_one, hzc] at hr
  exact hr
set_option maxRecDepth 100000 in
theorem lnew_any (k : Nat) (h1 : 1 ≤ k) (h2 : k ≤ 1024) (w : World) : Calls Try.prog 56 #[.int .i64 (k : Nat)] w fun e w' => ∃ g gr, e = .returned (.tuple #[pa g, .int .i64 0]) ∧ LogIn w' g gr (madeCells #[.pointer none] k) 0 0 ∧ w.heap.size ≤ g ∧ w.heap.size ≤ gr ∧ Below w.heap.size w w' := by
  have hk1 : ((k : Int) < 1) = False := by simp; omega
  have hk2 : ((k : Int) > 1024) = False := by simp; omega
  have hmk := mk_trees k h2 w
  go_enter Try.func56, Try.ntmps56
  go_wp2_with fail
  go_ret2
  have hsz : (madeCells #[Value.pointer none] k).size = k := by simp [madeCells]
  have hrow := (Blk.new w 61 (madeCells #[.pointer none] k)).alloc (.cells #[.slice (some ⟨w.heap.size, 0, none⟩) k k, .int .u64 0, .int .i64 0] 95)
  have hlog := Blk.new (w.alloc (.cells (madeCells #[.pointer none] k) 61)) 95 #[.slice (some ⟨w.heap.size, 0, none⟩) k k, .int .u64 0, .int .i64 0]
  have h1w : (w.alloc (.cells (madeCells #[.pointer none] k) 61)).heap.size = w.heap.size + 1 := World.size_alloc _ _
  rw [h1w] at hlog
  exact ⟨w.heap.size + 1, w.heap.size, rfl, ⟨by rw [hsz]; exact hlog, hrow, by omega, by rw [hsz]; exact h1, by rw [hsz]; exact h2, Nat.zero_le _, Nat.zero_le _⟩, by omega, Nat.le_refl _, bel_al (bel_new w _) _⟩
end Go.Proofs.Ytajcmpafbcpicaa
