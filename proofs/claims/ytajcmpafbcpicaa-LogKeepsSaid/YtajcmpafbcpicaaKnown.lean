/- The node chapter's rows: known() is true. No conditions. -/
import Derived.Test.YtajcmpafbcpicaaInner
import Derived.Test.YtajcmpafbcpicaaRef2
set_option linter.unusedVariables false
set_option linter.unusedSimpArgs false
namespace Go.Proofs.Ytajcmpafbcpicaa
open Go.RowKit

abbrev numV (n : Int) : V := .mk 3 false n { data := #[] } [] []
theorem bel_tr {w w1 w2 : World} (h : Below w.heap.size w w1) (k : Below w1.heap.size w1 w2) : Below w.heap.size w w2 := below_then h h.size k
theorem bel_al {w w1 : World} (h : Below w.heap.size w w1) (o : Obj) : Below w.heap.size w (w1.alloc o) := h.alloc h.size o
theorem bel_new (w : World) (o : Obj) : Below w.heap.size w (w.alloc o) := (Below.refl _ w).alloc (Nat.le_refl _) o
theorem numV_in (w : World) (S : Nat → Prop) (n : Int) (p q : Option Addr) : VIn w S (numV n) p q := VIn.of (LIn.nil _ _ _) (EIn.nil _ _ _)
theorem numV_fits (n : Int) : (numV n).Fits := .mk (by decide) (by decide) (by decide) (fun _ h => by cases h) (fun _ h => by cases h) (fun _ h => by cases h)
abbrev numCells (k : Key) (n : Int) : List Value := [.string k, .int .i64 3, .bool false, .int .i64 n, .string { data := #[] }, .slice none 0 0, .slice none 0 0]
def EntryPost (k : Key) (n : Int) (w : World) (e : Ending) (w' : World) : Prop :=
  e = .returned (.agg #[.string k, .int .i64 3, .bool false, .int .i64 n, .string { data := #[] }, .slice none 0 0, .slice none 0 0]) ∧ Below w.heap.size w w'

theorem entry_any (k : Key) (n : Int) (w : World) : Calls Try.prog 102 #[.string k, .int .i64 n] w (EntryPost k n w) := by
  go_enter Try.func102, Try.ntmps102
  go_wp2_with fail
  refine bodyPost_ret (results_cell1 (cs := numCells k n) rfl rfl (Try.isAgg44 _) (Try.sizeOf44 _) (Blk.new w 44 _).cells) rfl ?_
  exact ⟨rfl, (Below.refl _ w).alloc (Nat.le_refl _) _⟩

theorem ein2 (w : World) (k1 k2 : Key) (n1 n2 : Int) (S : Nat → Prop) (hS : S w.heap.size) :
    EIn (w.alloc (.cells #[.string k1, .int .i64 3, .bool false, .int .i64 n1, .string { data := #[] }, .slice none 0 0, .slice none 0 0, .string k2, .int .i64 3, .bool false, .int .i64 n2, .string { data := #[] }, .slice none 0 0, .slice none 0 0] 44)) S
      [(k1, numV n1), (k2, numV n2)] (some ⟨w.heap.size, 0, none⟩) :=
  EIn.of_ecells (cells := ecells k1 (numV n1) none 0 none 0 ++ (ecells k2 (numV n2) none 0 none 0 ++ [])) (Blk.new w 44 _).cells (.cons (numV_in _ _ _ _ _) (.cons (numV_in _ _ _ _ _) .nil)) hS
theorem ein1 (w : World) (k1 : Key) (n1 : Int) (S : Nat → Prop) (hS : S w.heap.size) :
    EIn (w.alloc (.cells #[.string k1, .int .i64 3, .bool false, .int .i64 n1, .string { data := #[] }, .slice none 0 0, .slice none 0 0] 44)) S
      [(k1, numV n1)] (some ⟨w.heap.size, 0, none⟩) :=
  EIn.of_ecells (cells := ecells k1 (numV n1) none 0 none 0 ++ []) (Blk.new w 44 _).cells (.cons (numV_in _ _ _ _ _) .nil) hS
theorem pin2 (w : World) (a b : Nd) (S : Nat → Prop) (hS : S w.heap.size) : PIn (w.alloc (.cells #[nptr a, nptr b] 30)) S [a, b] (some ⟨w.heap.size, 0, none⟩) := by
  have hb := (Blk.new w 30 #[nptr a, nptr b]).cells
  intro i k hi
  refine ⟨_, rfl, hS, hb i _ ?_⟩
  match i, hi with
  | 0, hi => simp at hi; subst hi; rfl
  | 1, hi => simp at hi; subst hi; rfl

abbrev kA : Key := { data := #[97] }
abbrev kB : Key := { data := #[98] }
abbrev kC : Key := { data := #[99] }
theorem rising_ba : rising [(kB, numV 1), (kA, numV 2)] = false := by simp [rising, klt, Lib.toList_data, Op.bytesLess]
theorem rising_aa : rising [(kA, numV 1), (kA, numV 2)] = false := by simp [rising, klt, Lib.toList_data, Op.bytesLess]
theorem rising_ab : rising [(kA, numV 1), (kB, numV 2)] = true := by simp [rising, klt, Lib.toList_data, Op.bytesLess]
theorem fits2 (k1 k2 : Key) (n1 n2 : Int) : ∀ e ∈ [(k1, numV n1), (k2, numV n2)], (e : En).2.Fits := by
  intro e he
  simp at he
  rcases he with rfl | rfl <;> exact numV_fits _
theorem fits1 (k1 : Key) (n1 : Int) : ∀ e ∈ [(k1, numV n1)], (e : En).2.Fits := by
  intro e he
  simp at he
  subst he; exact numV_fits _

theorem leaf_no {es : List En} {w : World} {e : Ending} {w' : World} (h : LeafPost es w e w') (hr : rising es = false) : e = .returned (.tuple #[.pointer none, .int .i64 2]) ∧ Below w.heap.size w w' := by
  rcases h with ⟨hb, (⟨_, h2, _⟩ | ⟨_, rfl⟩)⟩
  · rw [hr] at h2; cases h2
  · exact ⟨rfl, hb⟩
theorem leaf_yes {es : List En} {w : World} {e : Ending} {w' : World} (h : LeafPost es w e w') (hl : es.length ≤ 8) (hr : rising es = true) :
    ∃ a, e = .returned (.tuple #[nptr (.mk a es []), .int .i64 0]) ∧ NIn w' (fun b => w.heap.size ≤ b) (.mk a es []) ∧ Below w.heap.size w w' := by
  rcases h with ⟨hb, (⟨_, h2, a, rfl, _, hn⟩ | ⟨h2, rfl⟩)⟩
  · exact ⟨a, rfl, hn, hb⟩
  · exact absurd ⟨hl, hr⟩ h2

abbrev xN (x : Nat) : Nd := .mk x [(kA, numV 1), (kB, numV 2)] []
abbrev yN (y : Nat) : Nd := .mk y [(kC, numV 3)] []
theorem xN_ok (x : Nat) : (xN x).ok := by
  show (xN x).sh.may = true
  simp only [Nd.sh, shs]
  exact (Sh.may_leaf _).2 ⟨by simp, rising_ab⟩
theorem yN_ok (y : Nat) : (yN y).ok := by
  show (yN y).sh.may = true
  simp only [Nd.sh, shs]
  exact (Sh.may_leaf _).2 ⟨by simp, rfl⟩
theorem xyN_flat (z x y : Nat) : (Nd.mk z [] [xN x, yN y]).sh.flat = [(kA, numV 1), (kB, numV 2), (kC, numV 3)] := by simp [Nd.sh, shs, Sh.flat, flats]
theorem xyN_hgt (z x y : Nat) : (Nd.mk z [] [xN x, yN y]).hgt = 1 := by simp [Nd.hgt, Nd.sh, shs, Sh.height]
theorem xyN_cnt (z x y : Nat) : (Nd.mk z [] [xN x, yN y]).cnt = 3 := by rw [Nd.cnt, xyN_flat]; rfl
theorem xyN_tog (x y : Nat) : together [xN x, yN y] := by
  refine (together_iff _ _ ?_).2 ⟨by simp, by simp, ?_, ?_⟩
  · intro n hn
    simp at hn
    rcases hn with rfl | rfl
    · exact xN_ok x
    · exact yN_ok y
  · intro n hn
    simp at hn
    rcases hn with rfl | rfl
    · exact ⟨by simp [Nd.cnt, Nd.sh, shs, Sh.flat], rfl⟩
    · exact ⟨by simp [Nd.cnt, Nd.sh, shs, Sh.flat], by simp [Nd.hgt, Nd.sh, shs, Sh.height]⟩
  · simp [risingN, ahead, Nd.sh, shs, Sh.flat, lastKey, firstKey, klt, Lib.toList_data, Op.bytesLess]
theorem xyN_ok (z x y : Nat) : (Nd.mk z [] [xN x, yN y]).ok := by
  have := (xyN_tog x y).2
  show (Nd.mk z [] [xN x, yN y]).sh.may = true
  rwa [Nd.sh]
theorem inner_known (x y : Nat) (W : World) (p : Option Addr) (c : Nat) (hx : NIn W (fun _ => True) (xN x)) (hy : NIn W (fun _ => True) (yN y)) (hp : PIn W (fun _ => True) [xN x, yN y] p) :
    Calls Try.prog 33 #[.slice p 2 c] W fun e w' => ∃ z, e = .returned (.tuple #[nptr (.mk z [] [xN x, yN y]), .int .i64 0]) ∧ NIn w' (fun _ => True) (.mk z [] [xN x, yN y]) ∧ Below W.heap.size W w' := by
  refine (inner_any (S := fun _ => True) [xN x, yN y] W p c hp ?_ ?_ ?_).mono ?_
  · intro n hn
    simp at hn
    rcases hn with rfl | rfl
    · exact ⟨hx, xN_ok x⟩
    · exact ⟨hy, yN_ok y⟩
  · simp [cnts, shs, flats, Nd.sh, Sh.flat]
  · intro n hn
    simp at hn
    rcases hn with rfl | rfl <;> simp [Nd.hgt, Nd.sh, shs, Sh.height]
  · rintro e w' ⟨hb, (⟨_, z, rfl, _, hn⟩ | ⟨hno, rfl⟩)⟩
    · exact ⟨z, rfl, hn.more fun _ _ _ => trivial, hb⟩
    · exact absurd (xyN_tog x y) hno

set_option maxRecDepth 100000 in
set_option maxHeartbeats 4000000 in
theorem known_any (w : World) : Calls Try.prog 29 #[] w (BoolPost true w) := by
  have T1 : Hid True := trivial
  have T2 : Hid True := trivial
  have T3 : Hid True := trivial
  have T4 : Hid True := trivial
  have T5 : Hid True := trivial
  have T6 : Hid True := trivial
  have T7 : Hid True := trivial
  have L1 : Hid True := trivial
  have L2 : Hid True := trivial
  have L3 : Hid True := trivial
  have L4 : Hid True := trivial
  go_enter Try.func29, Try.ntmps29
  go_upto_region 5 with (first
    | (go_at_call 102; clear T1; refine (entry_any kB 1 _).mono ?_; rintro e u1 ⟨rfl, hu1⟩; have U1 := Lib.hid hu1; clear hu1)
    | (go_at_call 102; clear T2; refine (entry_any kA 2 _).mono ?_; rintro e u2 ⟨rfl, hu2⟩; have U2 := Lib.hid hu2; clear hu2)
    | (go_at_call 102; clear T3; refine (entry_any kA 1 _).mono ?_; rintro e u3 ⟨rfl, hu3⟩; have U3 := Lib.hid hu3; clear hu3)
    | (go_at_call 102; clear T4; refine (entry_any kA 2 _).mono ?_; rintro e u4 ⟨rfl, hu4⟩; have U4 := Lib.hid hu4; clear hu4)
    | (go_at_call 102; clear T5; refine (entry_any kA 1 _).mono ?_; rintro e u5 ⟨rfl, hu5⟩; have U5 := Lib.hid hu5; clear hu5)
    | (go_at_call 102; clear T6; refine (entry_any kB 2 _).mono ?_; rintro e u6 ⟨rfl, hu6⟩; have U6 := Lib.hid hu6; clear hu6)
    | (go_at_call 102; clear T7; refine (entry_any kC 3 _).mono ?_; rintro e u7 ⟨rfl, hu7⟩; have U7 := Lib.hid hu7; clear hu7)
    | (go_at_call 35; clear L1; refine (leaf_any [(kB, numV 1), (kA, numV 2)] (fits2 _ _ _ _) (by simp) _ (fun _ => True) _ _ (ein2 _ _ _ _ _ _ trivial)).mono ?_; intro e w1 h1; obtain ⟨rfl, hb⟩ := leaf_no h1 rising_ba; have B1 := Lib.hid hb; clear hb h1)
    | (go_at_call 35; clear L2; refine (leaf_any [(kA, numV 1), (kA, numV 2)] (fits2 _ _ _ _) (by simp) _ (fun _ => True) _ _ (ein2 _ _ _ _ _ _ trivial)).mono ?_; intro e w2 h1; obtain ⟨rfl, hb⟩ := leaf_no h1 rising_aa; have B2 := Lib.hid hb; clear hb h1)
    | (go_at_call 35; clear L3; refine (leaf_any [(kA, numV 1), (kB, numV 2)] (fits2 _ _ _ _) (by simp) _ (fun _ => True) _ _ (ein2 _ _ _ _ _ _ trivial)).mono ?_; intro e w3 h1; obtain ⟨x, rfl, hx, hb⟩ := leaf_yes h1 (by simp) rising_ab; have X3 := Lib.hid hx; have B3 := Lib.hid hb; clear hb h1 hx)
    | (go_at_call 35; clear L4; refine (leaf_any [(kC, numV 3)] (fits1 _ _) (by simp) _ (fun _ => True) _ _ (ein1 _ _ _ _ trivial)).mono ?_; intro e w4 h1; obtain ⟨y, rfl, hy, hb⟩ := leaf_yes h1 (by simp) rfl; have Y4 := Lib.hid hy; have B4 := Lib.hid hb; clear hb h1 hy))
  have hbel : Below w.heap.size w w4 := bel_tr (bel_al (bel_tr (bel_tr (bel_al (bel_tr (bel_tr (bel_tr (bel_al (bel_tr (bel_tr (bel_tr (bel_al (bel_tr U1.out U2.out) _) B1.out) U3.out) U4.out) _) B2.out) U5.out) U6.out) _) B3.out) U7.out) _) B4.out
  have hx4 : NIn w4 (fun _ => True) (xN x) := (((X3.out.under U7.out).under (bel_new _ _)).under B4.out).more fun _ _ _ => trivial
  have hy4 : NIn w4 (fun _ => True) (yN y) := Y4.out.more fun _ _ _ => trivial
  have hin := inner_known x y (w4.alloc (.cells #[nptr (xN x), nptr (yN y)] 30)) (some ⟨w4.heap.size, 0, none⟩) 2 (hx4.under (bel_new _ _)) (hy4.under (bel_new _ _)) (pin2 _ _ _ _ trivial)
  have Hin := Lib.hid hin
  have Hbel := Lib.hid hbel
  clear hin hbel hx4 hy4 X3 Y4 U1 U2 U3 U4 U5 U6 U7 B1 B2 B3 B4
  have Hh := Lib.hid (xyN_hgt · x y)
  go_wp2_with (first
    | (go_at_call 33; refine Hin.out.mono ?_; rintro e w5 ⟨z, rfl, hz, hb5⟩; have Hz := Lib.hid hz; have Hb5 := Lib.hid hb5; have Hok := Lib.hid (xyN_ok z x y); clear hz hb5)
    | (go_at_call 40; refine (height_any _ Hz.out).mono ?_; rintro e w6 ⟨rfl, rfl⟩; rw [xyN_hgt])
    | (go_at_call 42; refine (count_any _ Hz.out).mono ?_; rintro e w6 ⟨rfl, rfl⟩; rw [xyN_cnt])
    | (go_at_call 47; refine (first_any _ Hz.out Hok.out).mono ?_; rintro e w6 ⟨rfl, rfl⟩; rw [xyN_flat]; rw [show firstKey [(kA, numV 1), (kB, numV 2), (kC, numV 3)] = kA from rfl])
    | (go_at_call 48; refine (last_any _ Hz.out Hok.out).mono ?_; rintro e w6 ⟨rfl, q6, rfl⟩; rw [xyN_flat]; rw [show lastKey [(kA, numV 1), (kB, numV 2), (kC, numV 3)] = kC from rfl]))
  go_ret
  exact ⟨rfl, below_drewN (bel_tr (bel_al Hbel.out _) Hb5.out) _⟩
end Go.Proofs.Ytajcmpafbcpicaa
