/- The log as a list of versions, each with its tree; its functions' contracts in these words; pick. Conditions: a log in memory. -/
import Derived.Test.YtajcmpafbcpicaaLog3
import Derived.Deep.QuietTactic
import Derived.BigQuiet
import Derived.Test.YtajcmpafbcpicaaQuiets
set_option linter.unusedVariables false
set_option linter.unusedSimpArgs false
namespace Go.Proofs.Ytajcmpafbcpicaa
open Go.RowKit

/-- A log that keeps K, the next version next, of which it has n, and whose trees' roots are f's. -/
def LogSt (w : World) (g gr K next n : Nat) (f : Nat → Option Addr) : Prop :=
  ∃ ring : Array Value, ring.size = K ∧ LogIn w g gr ring next n ∧ n ≤ next ∧ ∀ v, next - n ≤ v → v < next → ring[v % K]? = some (.pointer (f v))
def updF (f : Nat → Option Addr) (v : Nat) (op : Option Addr) : Nat → Option Addr := fun u => if u = v then op else f u
theorem LogSt.under {w w' : World} {g gr K next n : Nat} {f : Nat → Option Addr} (h : LogSt w g gr K next n f) (hb : Below w.heap.size w w') : LogSt w' g gr K next n f := by
  obtain ⟨ring, h1, h2, h3, h4⟩ := h
  exact ⟨ring, h1, h2.under hb, h3, h4⟩
theorem LogSt.drew {w : World} {g gr K next n : Nat} {f : Nat → Option Addr} (h : LogSt w g gr K next n f) (k : Nat) : LogSt (w.drewN k) g gr K next n f := by
  obtain ⟨ring, h1, h2, h3, h4⟩ := h
  exact ⟨ring, h1, h2.drew k, h3, h4⟩
theorem LogSt.lt {w : World} {g gr K next n : Nat} {f : Nat → Option Addr} (h : LogSt w g gr K next n f) : g < w.heap.size ∧ gr < w.heap.size ∧ 1 ≤ K ∧ K ≤ 1024 ∧ n ≤ K ∧ n ≤ next ∧ next ≤ 4611686018427387904 := by
  obtain ⟨ring, h1, h2, h3, h4⟩ := h
  subst h1
  exact ⟨h2.log.lt, h2.row.lt, h2.one, h2.most, h2.nk, h3, h2.nx⟩
theorem lst_new (k : Nat) (h1 : 1 ≤ k) (h2 : k ≤ 1024) (f : Nat → Option Addr) (w : World) : Calls Try.prog 56 #[.int .i64 (k : Nat)] w fun e w' => ∃ g gr, e = .returned (.tuple #[pa g, .int .i64 0]) ∧ LogSt w' g gr k 0 0 f ∧ w.heap.size ≤ g ∧ w.heap.size ≤ gr ∧ Below w.heap.size w w' := by
  refine (lnew_any k h1 h2 w).mono ?_
  rintro e w' ⟨g, gr, rfl, h3, h4, h5, h6⟩
  exact ⟨g, gr, rfl, ⟨_, by simp [madeCells], h3, Nat.le_refl _, fun v h7 h8 => by omega⟩, h4, h5, h6⟩
theorem mod_ne {K a b : Nat} (h1 : a < b) (h2 : b < a + K) : a % K ≠ b % K := by
  intro e
  have e1 := Nat.div_add_mod a K
  have e2 := Nat.div_add_mod b K
  rw [e] at e1
  have h3 : a / K ≤ b / K := Nat.div_le_div_right (by omega)
  rcases Nat.lt_or_ge (a / K) (b / K) with h | h
  · have : K * (a / K + 1) ≤ K * (b / K) := Nat.mul_le_mul_left K h
    rw [Nat.mul_add] at this
    omega
  · have : a / K = b / K := by omega
    rw [this] at e1
    omega
/-- Put, where it may be. -/
theorem lst_put {w : World} {g gr K next n : Nat} {f : Nat → Option Addr} (h : LogSt w g gr K next n f) (v : Nat) (op : Option Addr) (hok : putOk next n v) :
    Calls Try.prog 58 #[pa g, .int .u64 (v : Nat), .agg #[.pointer op]] w fun e w' => e = .returned (.int .i64 0) ∧ LogSt w' g gr K (v + 1) (min (n + 1) K) (updF f v op) ∧ (∀ B, B ≤ g → B ≤ gr → B ≤ w.heap.size → Below B w w') ∧ ∀ b, b < w.heap.size → b ≠ g → b ≠ gr → w'.heap[b]? = w.heap[b]? := by
  obtain ⟨ring, h1, h2, h3, h4⟩ := h
  have hk := h2.nk
  have h0 := h2.one
  refine (lput_ok h2 v op hok).mono ?_
  rintro e w' ⟨rfl, h5, h6, h7⟩
  subst h1
  refine ⟨rfl, ⟨_, by simp, h5, ?_, ?_⟩, h6, h7⟩
  · rcases hok.2 with rfl | rfl
    · omega
    · omega
  · intro u hu1 hu2
    unfold updF
    have hml : v % ring.size < ring.size := Nat.mod_lt _ (by omega)
    by_cases huv : u = v
    · subst huv
      simp [hml]
    · rw [if_neg huv]
      have hlt : u < v := by omega
      have hn : n ≠ 0 := by
        rintro rfl
        omega
      rcases hok.2 with h | h
      · omega
      subst h
      rw [Array.getElem?_setIfInBounds_ne (mod_ne (K := ring.size) hlt (by omega)).symm]
      exact h4 u (by omega) hlt
/-- Put, where it may not be. -/
theorem lst_no {w : World} {g gr K next n : Nat} {f : Nat → Option Addr} (h : LogSt w g gr K next n f) (v : Nat) (op : Option Addr) (code : Nat)
    (hc : (v > 4611686018427387903 ∧ code = 7) ∨ (v ≤ 4611686018427387903 ∧ 0 < n ∧ v < next ∧ code = 15) ∨ (v ≤ 4611686018427387903 ∧ 0 < n ∧ next < v ∧ code = 14)) :
    Calls Try.prog 58 #[pa g, .int .u64 (v : Nat), .agg #[(Value.pointer op)]] w fun e w' => e = .returned (.int .i64 (code : Nat)) ∧ Below w.heap.size w w' := by
  obtain ⟨ring, h1, h2, h3, h4⟩ := h
  exact lput_no h2 v op code hc

def AtNo (w : World) (e : Ending) (w' : World) : Prop := e = .returned (.tuple #[.agg #[.pointer none], .bool false]) ∧ Below w.heap.size w w'
set_option maxRecDepth 100000 in
set_option maxHeartbeats 1000000 in
theorem lat_zero {w : World} {g gr : Nat} {ring : Array Value} {next : Nat} (h : LogIn w g gr ring next 0) (v : Nat) : Calls Try.prog 63 #[pa g, .int .u64 (v : Nat)] w (AtNo w) := by
  have hbx := bel_new w (.cells #[.pointer none] 61)
  have h1 := h.under hbx
  have H1 := Lib.hid h1
  have bx := Blk.new w 61 #[.pointer none]
  have Hbx := Lib.hid hbx
  clear h h1 hbx
  go_enter Try.func63, Try.ntmps63
  go_upto_region 1 with fail
  go_quiet ((go_at_call 59; exact quiet_left (llen_any (H1.out.drew _))))
  have b1 := bx.drewN nq
  have f1 := b1.frozen 0
  have b2 := b1.set_ 0 (.pointer none)
  simp at b2 f1
  go_wp2_with fail
  refine bodyPost_ret (results_cell_tmp2 (cs := [.pointer none]) rfl rfl (Try.isAgg61 _) (Try.sizeOf61 _) b2.cells) rfl ?_
  exact ⟨rfl, (bel_tr Hbx.out (below_drewN_self _ nq)).setCell (p := ⟨w.heap.size, 0, none⟩) (Nat.le_refl _) _⟩
set_option maxRecDepth 100000 in
set_option maxHeartbeats 1000000 in
theorem lat_new {w : World} {g gr : Nat} {ring : Array Value} {next n : Nat} (h : LogIn w g gr ring next n) (h0 : 0 < n) (v : Nat) (hv : next ≤ v) : Calls Try.prog 63 #[pa g, .int .u64 (v : Nat)] w (AtNo w) := by
  have hbx := bel_new w (.cells #[.pointer none] 61)
  have h1 := h.under hbx
  have H1 := Lib.hid h1
  have c1 := h1.log.cell 1
  simp at c1
  have bx := Blk.new w 61 #[.pointer none]
  have Hbx := Lib.hid hbx
  have hz : ((n : Int) == 0) = false := beq_eq_false_iff_ne.2 (by omega)
  have hz' : ((n : Int) = 0) = False := eq_false (by omega)
  have hz2 : (n = 0) = False := eq_false (by omega)
  have hge : decide ((next : Int) ≤ (v : Int)) = true := decide_eq_true (by omega)
  clear h h1 hbx
  go_enter Try.func63, Try.ntmps63
  go_upto_region 1 with fail
  go_quiet ((go_at_call 59; exact quiet_left (llen_any (H1.out.drew _))))
  have b1 := bx.drewN nq
  have f1 := b1.frozen 0
  have b2 := b1.set_ 0 (.pointer none)
  simp at b2 f1
  go_wp2_with fail
  refine bodyPost_ret (results_cell_tmp2 (cs := [.pointer none]) rfl rfl (Try.isAgg61 _) (Try.sizeOf61 _) b2.cells) rfl ?_
  exact ⟨rfl, (bel_tr Hbx.out (below_drewN_self _ nq)).setCell (p := ⟨w.heap.size, 0, none⟩) (Nat.le_refl _) _⟩

/-- At, of whatever version. -/
theorem lst_at_no {w : World} {g gr K next n : Nat} {f : Nat → Option Addr} (h : LogSt w g gr K next n f) (v : Nat) (hv : n = 0 ∨ next ≤ v ∨ v < next - n) : Calls Try.prog 63 #[pa g, .int .u64 (v : Nat)] w (AtNo w) := by
  obtain ⟨ring, h1, h2, h3, h4⟩ := h
  by_cases hn : n = 0
  · subst hn; exact lat_zero h2 v
  · rcases hv with h | h | h
    · exact absurd h hn
    · exact lat_new h2 (by omega) v h
    · exact lat_old h2 v (by omega) h3 h
theorem lst_at {w : World} {g gr K next n : Nat} {f : Nat → Option Addr} (h : LogSt w g gr K next n f) (v : Nat) (hv : next - n ≤ v) (hv2 : v < next) :
    Calls Try.prog 63 #[pa g, .int .u64 (v : Nat)] w fun e w' => e = .returned (.tuple #[.agg #[.pointer (f v)], .bool true]) ∧ Below w.heap.size w w' := by
  obtain ⟨ring, h1, h2, h3, h4⟩ := h
  subst h1
  exact lat_kept h2 v h3 hv hv2 (f v) (h4 v hv hv2)

/-- pick's place. -/
def pickN (n : Int) : Nat := ((n % 18446744073709551616) % 5).toNat
theorem pickN_lt (n : Int) : pickN n < 5 := by unfold pickN; omega
def rootN (r0 r1 r2 r3 r4 : Option Addr) (k : Nat) : Option Addr := if k = 0 then r0 else if k = 1 then r1 else if k = 2 then r2 else if k = 3 then r3 else r4
set_option maxRecDepth 100000 in
set_option maxHeartbeats 1000000 in
theorem pick_any {w : World} {g : Nat} {r0 r1 r2 r3 r4 : Option Addr} (h : Blk w g 61 #[.pointer r0, .pointer r1, .pointer r2, .pointer r3, .pointer r4]) (n : Int) :
    Calls Try.prog 62 #[.slice (some ⟨g, 0, none⟩) 5 5, .int .i64 n] w fun e w' => e = .returned (.tuple #[.agg #[.pointer (rootN r0 r1 r2 r3 r4 (pickN n))], .int .i64 (pickN n : Nat)]) ∧ Below w.heap.size w w' := by
  have hbx := bel_new w (.cells #[.pointer none] 61)
  have bx := Blk.new w 61 #[.pointer none]
  have hc := (h.under hbx).cell (pickN n)
  have hk := pickN_lt n
  have hr : (#[Value.pointer r0, .pointer r1, .pointer r2, .pointer r3, .pointer r4] : Array Value)[pickN n]? = some (.pointer (rootN r0 r1 r2 r3 r4 (pickN n))) := by
    generalize pickN n = k at *
    match k, hk with
    | 0, _ => rfl
    | 1, _ => rfl
    | 2, _ => rfl
    | 3, _ => rfl
    | 4, _ => rfl
  rw [hr] at hc
  have hw : IntKind.u64.wrap n = n % 18446744073709551616 := by
    simp [IntKind.wrap, IntKind.bits, IntKind.signed]
  have h0 : (0 : Int) ≤ n % 18446744073709551616 := by omega
  have hm : Int.tmod (n % 18446744073709551616) 5 = ((pickN n : Nat) : Int) := by rw [Int.tmod_eq_emod_of_nonneg h0]; unfold pickN; omega
  have hm' : (n % 18446744073709551616) % 5 = ((pickN n : Nat) : Int) := by unfold pickN; omega
  have hb1 : ((pickN n : Nat) : Int) < 5 := by omega
  have hb0 : (0 : Int) ≤ ((pickN n : Nat) : Int) := by omega
  have Hbx := Lib.hid hbx
  clear h hbx hr
  generalize pickN n = k at *
  go_enter Try.func62, Try.ntmps62
  go_wp2_with fail
  refine bodyPost_ret (results_cell_tmp2 (cs := [.pointer (rootN r0 r1 r2 r3 r4 k)]) rfl rfl (Try.isAgg61 _) (Try.sizeOf61 _) (Blk.new _ _ _).cells) rfl ?_
  exact ⟨rfl, bel_new w _⟩

theorem lst_put_i {w : World} {g gr K next n : Nat} {f : Nat → Option Addr} (h : LogSt w g gr K next n f) (v : Int) (vn : Nat) (hv : v = (vn : Int)) (op : Option Addr) (hok : putOk next n vn) :
    Calls Try.prog 58 #[pa g, .int .u64 v, .agg #[.pointer op]] w fun e w' => e = .returned (.int .i64 0) ∧ LogSt w' g gr K (vn + 1) (min (n + 1) K) (updF f vn op) ∧ (∀ B, B ≤ g → B ≤ gr → B ≤ w.heap.size → Below B w w') ∧ ∀ b, b < w.heap.size → b ≠ g → b ≠ gr → w'.heap[b]? = w.heap[b]? := by
  subst hv; exact lst_put h vn op hok
theorem lst_at_i {w : World} {g gr K next n : Nat} {f : Nat → Option Addr} (h : LogSt w g gr K next n f) (v : Int) (vn : Nat) (hv : v = (vn : Int)) (h1 : next - n ≤ vn) (h2 : vn < next) :
    Calls Try.prog 63 #[pa g, .int .u64 v] w fun e w' => e = .returned (.tuple #[.agg #[.pointer (f vn)], .bool true]) ∧ Below w.heap.size w w' := by
  subst hv; exact lst_at h vn h1 h2
theorem lst_at_no_i {w : World} {g gr K next n : Nat} {f : Nat → Option Addr} (h : LogSt w g gr K next n f) (v : Int) (vn : Nat) (hv : v = (vn : Int)) (h1 : n = 0 ∨ next ≤ vn ∨ vn < next - n) : Calls Try.prog 63 #[pa g, .int .u64 v] w (AtNo w) := by
  subst hv; exact lst_at_no h vn h1
theorem updF_self (f : Nat → Option Addr) (v : Nat) : updF f v (f v) = f := by
  funext u
  unfold updF
  split
  · rename_i h; rw [h]
  · rfl
theorem run_eql_none (w : World) : (binOp .eql 30 (.pointer none) (.pointer none)).run Try.prog w = .ok (.bool true) w := by kernel_rfl
theorem is_self (op : Option Addr) (w : World) : Calls Try.prog 64 #[.agg #[.pointer op], .agg #[.pointer op]] w fun e w' => e = .returned (.bool true) ∧ Below w.heap.size w w' := by
  cases op with
  | none => exact tis_of _ _ w true fun W _ => run_eql_none W
  | some a => exact is_same a w
end Go.Proofs.Ytajcmpafbcpicaa
