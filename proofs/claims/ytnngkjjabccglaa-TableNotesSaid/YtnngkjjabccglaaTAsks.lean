/- A table and the reference's, side by side: notes on each, asks. Conditions: both in memory, telling the same. -/
import Derived.Test.YtnngkjjabccglaaTSame
set_option linter.unusedVariables false
set_option linter.unusedSimpArgs false
namespace Go.Proofs.Ytnngkjjabccglaa
open Go.RowKit

def PairE (w : World) (B g h N : Nat) (T : Tab) (L : List Rn) : Prop := TabE w B g N T ∧ ∃ val, RefIn w B h L val
theorem PairE.under {w w' : World} {B g h N : Nat} {T : Tab} {L : List Rn} (p : PairE w B g h N T L) (hb : Below w.heap.size w w') : PairE w' B g h N T L := by
  obtain ⟨h1, val, h2⟩ := p
  exact ⟨h1.under hb, val, h2.under hb⟩
theorem RefIn.off {w w' : World} {B h : Nat} {L : List Rn} {val : Value} (r : RefIn w B h L val) (ho : OffT w w') : RefIn w' B h L val := by
  refine ⟨(ho h _ _ _ r.blk (by decide) (by decide)).trans r.blk, ⟨r.row.1, ?_⟩, r.base, r.len, r.nums⟩
  rcases r.row.2 with h2 | ⟨g, cap, cur, e, hg, hh, k⟩
  · exact .inl h2
  · exact .inr ⟨g, cap, cur, e, hg, (ho g _ _ _ hh (by decide) (by decide)).trans hh, k⟩
theorem TabE.far {w : World} {B g N h : Nat} {T : Tab} {cs : Array Value} (t : TabE w B g N T) (hb : Blk w h 33 cs) (o : Nat) (u : Value) : TabE (w.setCell ⟨h, o, none⟩ u) B g N T := by
  obtain ⟨m1, m2, row, t⟩ := t
  have hk : ∀ b, b ≠ h → (w.setCell ⟨h, o, none⟩ u).heap[b]? = w.heap[b]? := fun b hb => Below.heap_setCell w ⟨h, o, none⟩ u b hb
  refine ⟨m1, m2, row, t.blk.far (p := ⟨h, o, none⟩) (Blk.ne_ t.blk hb (by decide)) u, t.base, fun b e => ⟨(t.n1 b e).1, (t.n1 b e).2.keep (hk b (Ne.symm (blk_not_map hb (t.n1 b e).2)))⟩, fun b e => ⟨(t.n2 b e).1, (t.n2 b e).2.keep (hk b (Ne.symm (blk_not_map hb (t.n2 b e).2)))⟩, t.z1, t.z2, t.ne,
    fun c l e => ⟨own_far (t.rows c l e).1 _ _ ((t.rows c l e).1.not_blk hb (by decide)), (t.rows c l e).2⟩, t.apart, t.nd, t.nd2, t.nums, t.numsL⟩
theorem TabE.more {w : World} {B g N : Nat} {T : Tab} (t : TabE w B g N T) (hN : N < 1000000) : TabE w B g (N + 1) T := by
  obtain ⟨m1, m2, row, t⟩ := t
  exact ⟨m1, m2, row, t.blk, t.base, t.n1, t.n2, t.z1, t.z2, t.ne, fun c l e => ⟨(t.rows c l e).1, (t.rows c l e).2.1, by have := (t.rows c l e).2.2.1; omega, (t.rows c l e).2.2.2⟩, t.apart, t.nd, t.nd2, ⟨t.nums.1, t.nums.2.1, by omega⟩, t.numsL⟩
theorem pnote {w : World} {B g h N : Nat} {T : Tab} {L : List Rn} (p : PairE w B g h N T L) (hB : B ≤ w.heap.size) (hN : N < 1000000) (c v i : Nat) :
    Calls Try.prog 6 #[tp g, u64v c, u64v v, u64v i] w fun e w' => e = .returned (.int .i64 (T.code c v i : Nat)) ∧ PairE w' B g h (N + 1) (T.after c v i) L ∧ Below B w w' := by
  obtain ⟨h1, val, h2⟩ := p
  unfold Tab.after
  by_cases hc : T.code c v i = 0
  · rw [if_pos hc, hc]
    refine (note_ok h1 hB hN c v i hc).mono ?_
    rintro e w' ⟨rfl, a, b, o⟩
    exact ⟨rfl, ⟨a, val, h2.off o⟩, b⟩
  · rw [if_neg hc]
    refine (note_no h1 c v i hc).mono ?_
    rintro e w' ⟨rfl, rfl⟩
    exact ⟨rfl, ⟨h1.more hN, val, h2⟩, Below.refl _ _⟩
theorem prnote {w : World} {B g h N : Nat} {T : Tab} {L : List Rn} (p : PairE w B g h N T L) (hL : L.length < 1000) (c v i : Nat) :
    Calls Try.prog 7 #[tp h, u64v c, u64v v, u64v i] w fun e w' => e = .returned (.int .i64 (rcode L c v i : Nat)) ∧ PairE w' B g h N T (afterR L c v i) ∧ Below B w w' := by
  obtain ⟨h1, val, h2⟩ := p
  have hB : B ≤ w.heap.size := by have := h2.base; have := h2.blk.lt; omega
  unfold afterR
  by_cases hc : rcode L c v i = 0
  · rw [if_pos hc, hc]
    refine (rnote_ok h2 hL c v i hc).mono ?_
    rintro e w' ⟨rfl, w6, v2, rfl, b, r⟩
    exact ⟨rfl, ⟨(h1.under b).far (h2.blk.under b) 0 v2, v2, r⟩, (b.mono hB).setCell (p := ⟨h, 0, none⟩) h2.base _⟩
  · rw [if_neg hc]
    refine (rnote_no h2 c v i hc).mono ?_
    rintro e w' ⟨rfl, b⟩
    exact ⟨rfl, ⟨h1.under b, val, h2.under b⟩, b.mono hB⟩
theorem pat {w : World} {B g h N : Nat} {T : Tab} {L : List Rn} (p : PairE w B g h N T L) (s : Same T L) (c v : Nat) : Calls Try.prog 14 #[tp g, u64v c, u64v v] w fun e w' => e = .returned (.tuple #[u64v (atR c v L), .bool true]) ∧ Below w.heap.size w w' := by
  have k := at_E p.1 c v
  rw [s.at_] at k
  exact k
theorem pwho {w : World} {B g h N : Nat} {T : Tab} {L : List Rn} (p : PairE w B g h N T L) (s : Same T L) (v : Nat) : Calls Try.prog 11 #[tp g, u64v v] w fun e w' => e = .returned (.tuple #[u64v ((whoR v L).getD (0, 0, 0)).1, u64v ((whoR v L).getD (0, 0, 0)).2.2, .bool (whoR v L).isSome]) ∧ Below w.heap.size w w' := by
  have k := who_E p.1 v
  rw [s.whoOf] at k
  exact k
theorem plast {w : World} {B g h N : Nat} {T : Tab} {L : List Rn} (p : PairE w B g h N T L) (s : Same T L) (c : Nat) : Calls Try.prog 12 #[tp g, u64v c] w fun e w' => e = .returned (u64v (lastR c L)) ∧ w = w' := by
  have k := last_E p.1 c
  rw [s.last] at k
  exact k
theorem pnewest {w : World} {B g h N : Nat} {T : Tab} {L : List Rn} (p : PairE w B g h N T L) (s : Same T L) : Calls Try.prog 15 #[tp g] w fun e w' => e = .returned (u64v (newR L)) ∧ w = w' := by
  have k := newest_E p.1
  rw [s.newest] at k
  exact k
theorem prat {w : World} {B g h N : Nat} {T : Tab} {L : List Rn} (p : PairE w B g h N T L) (c v : Nat) : Calls Try.prog 22 #[tp h, u64v c, u64v v] w fun e w' => e = .returned (.tuple #[u64v (atR c v L), .bool true]) ∧ w = w' := by
  obtain ⟨_, val, r⟩ := p
  exact rat_any r c v
theorem prwho {w : World} {B g h N : Nat} {T : Tab} {L : List Rn} (p : PairE w B g h N T L) (v : Nat) : Calls Try.prog 23 #[tp h, u64v v] w (RWhoPost (whoR v L) w) := by
  obtain ⟨_, val, r⟩ := p
  exact rwho_any r v
theorem prlast {w : World} {B g h N : Nat} {T : Tab} {L : List Rn} (p : PairE w B g h N T L) (c : Nat) : Calls Try.prog 21 #[tp h, u64v c] w fun e w' => e = .returned (u64v (lastR c L)) ∧ w = w' := by
  obtain ⟨_, val, r⟩ := p
  exact rlast_any r c
theorem prnewest {w : World} {B g h N : Nat} {T : Tab} {L : List Rn} (p : PairE w B g h N T L) : Calls Try.prog 20 #[tp h] w fun e w' => e = .returned (u64v (newR L)) ∧ ∃ q, w' = w.drewN q := by
  obtain ⟨_, val, r⟩ := p
  exact rnewest_any r
set_option maxRecDepth 100000 in
theorem asks_any {w : World} {B g h N : Nat} {T : Tab} {L : List Rn} (p : PairE w B g h N T L) (s : Same T L) (c v : Nat) : Calls Try.prog 8 #[tp g, tp h, u64v c, u64v v] w fun e w' => e = .returned (.bool true) ∧ Below w.heap.size w w' := by
  have HP := Lib.hid p
  have HS := Lib.hid s
  clear p s
  go_enter Try.func8, Try.ntmps8
  go_wp2_with (first
    | (go_at_call 14; refine (pat HP.out HS.out c v).mono ?_; rintro e w1 ⟨rfl, hb1⟩; have HP1 := Lib.hid (HP.out.under hb1); have Hb1 := Lib.hid hb1; clear hb1)
    | (go_at_call 22; refine (prat HP1.out c v).mono ?_; rintro e w2 ⟨rfl, rfl⟩)
    | (go_at_call 11; refine (pwho HP1.out HS.out v).mono ?_; rintro e w3 ⟨rfl, hb3⟩; have HP3 := Lib.hid (HP1.out.under hb3); have Hb3 := Lib.hid (bel_tr Hb1.out hb3); clear hb3)
    | (go_at_call 23; refine (prwho HP3.out v).mono ?_; rintro e w4 ⟨rfl, hb4⟩; have HP4 := Lib.hid (HP3.out.under hb4); have Hb4 := Lib.hid (bel_tr Hb3.out hb4); clear hb4)
    | (go_at_call 12; refine (plast (HP4.out.under (bel_new _ _)) HS.out c).mono ?_; rintro e w5 ⟨rfl, rfl⟩)
    | (go_at_call 21; refine (prlast (HP4.out.under (bel_new _ _)) c).mono ?_; rintro e w6 ⟨rfl, rfl⟩)
    | (go_at_call 15; refine (pnewest (HP4.out.under (bel_new _ _)) HS.out).mono ?_; rintro e w7 ⟨rfl, rfl⟩)
    | (go_at_call 20; refine (prnewest (HP4.out.under (bel_new _ _))).mono ?_; rintro e w8 ⟨rfl, q, rfl⟩))
  go_ret
  exact ⟨rfl, below_drewN (bel_al Hb4.out _) q⟩
end Go.Proofs.Ytnngkjjabccglaa
