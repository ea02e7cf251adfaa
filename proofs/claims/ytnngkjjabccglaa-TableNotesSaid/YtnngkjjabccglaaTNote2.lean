/- (*Table).Note where it may be: region 14, the note is appended to its client's. Conditions: a table in memory whose maps are made. -/
import Derived.Test.YtnngkjjabccglaaTNote
set_option linter.unusedVariables false
set_option linter.unusedSimpArgs false
namespace Go.Proofs.Ytnngkjjabccglaa
open Go.RowKit

abbrev tab14 (g b1 c v i : Nat) (V : Value) : List (Nat × Nat × Value) := [(0, 59, .pointer (some ⟨g, 0, none⟩)), (1, 60, .pointer (some ⟨g, 0, none⟩)), (2, 61, .pointer (some ⟨g, 0, none⟩)), (3, 62, .map (some b1)), (4, 63, u64v c), (5, 64, .pointer (some ⟨g, 0, none⟩)), (6, 65, .pointer (some ⟨g, 0, none⟩)), (7, 66, .pointer (some ⟨g, 0, none⟩)), (8, 67, .map (some b1)), (9, 68, u64v c), (10, 69, V), (11, 70, u64v v), (12, 71, u64v i), (13, 72, .agg #[u64v v, u64v i])]
structure Grown (W0 W : World) (V v' : Value) (b1 : Option Nat) : Prop where
  os : W.os = W0.os
  tape : W.tape = W0.tape
  output : W.output = W0.output
  size : W0.heap.size ≤ W.heap.size
  block : ∀ b, b < W0.heap.size → V.ownBlock ≠ some b → b1 ≠ some b → W.heap[b]? = W0.heap[b]?
  own : v'.ownBlock = V.ownBlock ∨ ∃ h, v'.ownBlock = some h ∧ W0.heap.size ≤ h
/-- What holds of the world in region 14: the look-up, the new note's block, the append, the store have come up, or have not. -/
structure W14 (B b1 c v i : Nat) (V : Value) (l : List Nt) (kv : List (Nat × Value)) (W0 : World) (p10 p14 p15 p16 : Prop) (a : Act) (W : World) : Prop where
  q15 : p15 → p10 ∧ p14
  q16 : p16 → p15
  bel : ¬ p15 → Below W0.heap.size W0 W
  new : p14 → ¬ p15 → ∃ b, Slot a 73 (.slice (some ⟨b, 0, none⟩) 1 1) ∧ Blk W b 60 #[u64v v, u64v i]
  s73 : p14 → ∃ u, Slot a 73 u
  s74 : p15 → ∃ u, Slot a 74 u
  app : p15 → ¬ p16 → ∃ v', Slot a 74 v' ∧ RowN W B v' (l ++ [(v, i)]) ∧ Grown W0 W V v' none ∧ MapB W b1 kv
  fin : p16 → ∃ v', RowN W B v' (l ++ [(v, i)]) ∧ Grown W0 W V v' (some b1) ∧ MapB W b1 (putU c v' kv)
theorem W14.put {B b1 c v i : Nat} {V : Value} {l : List Nt} {kv : List (Nat × Value)} {W0 : World} {p10 p14 p15 p16 : Prop} {a : Act} {W : World} (h : W14 B b1 c v i V l kv W0 p10 p14 p15 p16 a W) (d : Nat) (u : Value) (h3 : d ≠ 73) (h4 : d ≠ 74) :
    W14 B b1 c v i V l kv W0 p10 p14 p15 p16 (a.put (some d) u) W :=
  ⟨h.q15, h.q16, h.bel, fun h1 h2 => (h.new h1 h2).imp fun b ⟨s, k⟩ => ⟨s.far _ h3, k⟩, fun h1 => (h.s73 h1).imp fun b s => s.far _ h3, fun h1 => (h.s74 h1).imp fun b s => s.far _ h4,
    fun h1 h2 => (h.app h1 h2).imp fun b ⟨s, k⟩ => ⟨s.far _ h4, k⟩, h.fin⟩
theorem W14.cast {B b1 c v i : Nat} {V : Value} {l : List Nt} {kv : List (Nat × Value)} {W0 : World} {p10 p14 p15 p16 q10 q14 q15 q16 : Prop} {a : Act} {W : World} (h : W14 B b1 c v i V l kv W0 p10 p14 p15 p16 a W) (e1 : q10 = p10) (e2 : q14 = p14) (e3 : q15 = p15) (e4 : q16 = p16) :
    W14 B b1 c v i V l kv W0 q10 q14 q15 q16 a W := by subst e1; subst e2; subst e3; subst e4; exact h
theorem W14.more {B b1 c v i : Nat} {V : Value} {l : List Nt} {kv : List (Nat × Value)} {W0 : World} {p10 q10 p14 p15 p16 : Prop} {a : Act} {W : World} (h : W14 B b1 c v i V l kv W0 p10 p14 p15 p16 a W) (hq : p10 → q10) : W14 B b1 c v i V l kv W0 q10 p14 p15 p16 a W :=
  ⟨fun h1 => ⟨hq (h.q15 h1).1, (h.q15 h1).2⟩, h.q16, h.bel, h.new, h.s73, h.s74, h.app, h.fin⟩
def I14 (B g b1 c v i : Nat) (V : Value) (l : List Nt) (kv : List (Nat × Value)) (tc : Array Value) (a0 : Act) (W0 : World) (L : Nat → Prop) (a : Act) (W : World) : Prop :=
  Off [59, 60, 61, 62, 63, 64, 65, 66, 67, 68, 69, 70, 71, 72, 73, 74] a0 a ∧ Tabl (tab14 g b1 c v i V) L a ∧ Blk W g 29 tc ∧ W14 B b1 c v i V l kv W0 (L 10) (L 14) (L 15) (L 16) a W

section
variable {P : Program} (w : World)
theorem step_append_at {ops : Array Oper} {o : Oper} {a : Act} {K : Act → World → Prop} {Q : Exit → Act → World → Prop} {E : Prop} (hgd : o.guard = none) (s x : Operand) (t : TypeId)
    (ho : o.op = .call { callee := .builtin .append, args := #[s, x], argTypes := #[t, t] })
    (base : Nat) (e : TypeId) (i : TypeInfo) (z : Value) (size bytes : Nat) (ht : P.underlying t = some (.slice e)) (hi : P.info? e = some i) (hz : i.zero = some z)
    (hsize : i.size = size) (hby : i.bytes = bytes) (hzs : z.cells.size = size) (hsz : 0 < size)
    (v : Value) (n : Nat) (xs : List Value) (hs : a.eval s = v) (hown : w.ownsRow base e size v n xs)
    (ad : Addr) (m c : Nat) (news : List Value) (hx : a.eval x = .slice (some ad) m c) (hl : news.length = m * size) (hnews : ∀ j u, news[j]? = some u → w.cell? (ad.add j) = some u) (h1 : ∀ u ∈ news, u.oneCell' = true)
    (h63 : n + m ≤ maxLen) (hbytes : (n + m) * bytes ≤ 140737488355328) (hbase : base ≤ w.heap.size)
    (h : ∀ v' w', w'.ownsRow base e size v' (n + m) (xs ++ news) → w.grownBy w' v.ownBlock → (v'.ownBlock = v.ownBlock ∨ v'.ownBlock = some w.heap.size) → K (a.put o.dst v') w') :
    if Region.wanted o (yielded ops a.tmps) = true then Oper.wp P o a w K Q else E := by
  rw [if_pos (by simp [Region.wanted, hgd])]
  obtain ⟨v', w', hr, h2, h3, h4, h5⟩ := run_append_own_at (P := P) w base t o.type e i z size bytes ht hi hz hsize hby hzs hsz v n xs hown ad m c news hl hnews h1 h63 hbytes hbase
  unfold Oper.wp execOp
  simp only [ho, resolve, invoke, builtin, Sem.run_bind, Sem.run_pure, Result.andThen_ok, List.map_toArray, List.map_cons, List.map_nil, hs, hx, hr]
  exact h v' w' h2 h3 h5
theorem step_store_u {w : World} {ops : Array Oper} {o : Oper} {a : Act} {K : Act → World → Prop} {Q : Exit → Act → World → Prop} {E : Prop} (hg : o.guard = none) (m x v : Operand) (t : TypeId) (hop : o.op = Op.mapUpdate t m x v) (kt et : TypeId)
    (ht : P.underlying t = some (.map kt et)) (hk : P.underlying kt = some (.int .u64)) (b : Nat) (kv : List (Nat × Value)) (hm : a.eval m = .map (some b)) (h : MapB w b kv) (k : Nat) (val : Value) (hx : a.eval x = u64v k) (hv : a.eval v = val)
    (hK : ∀ w', MapB w' b (putU k val kv) → w.grownBy w' (some b) → K (a.put o.dst undef) w') : if Region.wanted o (yielded ops a.tmps) = true then Oper.wp P o a w K Q else E := by
  rw [if_pos (by simp [Region.wanted, hg])]
  obtain ⟨w', hrun, r1, r2⟩ := h.store (P := P) ht hk k val
  unfold Oper.wp
  simp [execOp, hop, hm, hx, hv, hrun, Result.andThen]
  exact hK w' r1 r2
end
theorem slot_eval {a : Act} {t : Nat} {v : Value} (h : Slot a t v) : a.eval (.tmp t) = v := by
  unfold Slot at h
  simp [Act.eval, h]
theorem infoNote : (Try.prog.info? 60).map (fun i => (i.zero.map fun z => z.cells.size, i.size, i.bytes)) = some (some 2, 2, 16) := by kernel_rfl

theorem putU_keys {α : Type} (k : Nat) (v : α) : ∀ l : List (Nat × α), (l.map (·.1)).Nodup → ((putU k v l).map (·.1)).Nodup ∧ ∀ j, j ∈ (putU k v l).map (·.1) → j = k ∨ j ∈ l.map (·.1)
  | [], _ => ⟨by simp [putU], fun j h => by simp [putU] at h; exact .inl h⟩
  | (j, u) :: l, h => by
    simp only [List.map_cons, List.nodup_cons] at h
    unfold putU
    by_cases hj : j = k
    · subst hj
      rw [if_pos rfl]
      exact ⟨by simpa using h, fun i hi => .inr (by simpa using hi)⟩
    · rw [if_neg hj]
      obtain ⟨h1, h2⟩ := putU_keys k v l h.2
      simp only [List.map_cons, List.nodup_cons, List.mem_cons]
      refine ⟨⟨fun hm => ?_, h1⟩, fun i hi => ?_⟩
      · rcases h2 j hm with e | e
        · exact hj e
        · exact h.1 e
      · rcases hi with rfl | hi
        · exact .inr (.inl rfl)
        · rcases h2 i hi with e | e
          · exact .inl e
          · exact .inr (.inr e)
theorem putU_row {α β : Type} (f : Nat → β) (k : Nat) (v : α) (b : β) : ∀ l : List (Nat × α), (l.map (·.1)).Nodup →
    (putU k v l).map (fun x => (x.1, if x.1 = k then b else f x.1)) = putU k b (l.map fun x => (x.1, f x.1))
  | [], _ => by simp [putU]
  | (j, u) :: l, h => by
    simp only [List.map_cons, List.nodup_cons] at h
    unfold putU
    by_cases hj : j = k
    · subst hj
      simp only [if_true, List.map_cons]
      congr 1
      refine List.map_congr_left fun x hx => ?_
      have : x.1 ≠ j := fun e => h.1 (e ▸ List.mem_map_of_mem (f := fun x : Nat × α => x.1) hx)
      rw [if_neg this]
    · simp only [if_neg hj, List.map_cons]
      rw [putU_row f k v b l h.2]
theorem putU_val {α β : Type} (f : α → β) (k : Nat) (v : α) : ∀ l : List (Nat × α), (putU k v l).map (fun x => (x.1, f x.2)) = putU k (f v) (l.map fun x => (x.1, f x.2))
  | [] => by simp [putU]
  | (j, u) :: l => by
    unfold putU
    by_cases hj : j = k
    · simp [hj]
    · simp only [if_neg hj, List.map_cons]
      rw [putU_val f k v l]
def Tab.put (T : Tab) (c v i : Nat) : Tab := { notes := putU c (T.of c ++ [(v, i)]) T.notes, who := putU v c T.who, floor := T.floor, newest := v }
theorem rowV_own {w : World} {B g N : Nat} {T : Tab} {m1 m2 : Option Nat} {row : Nat → Value} (h : TabIn w B g N T m1 m2 row) (c : Nat) : RowN w B (rowV T row c) (T.of c) ∧ (T.of c).length ≤ N ∧ riseN (T.of c) ∧ ∀ x ∈ T.of c, x.1 ≤ T.newest ∧ x.2 < 9223372036854775808 := by
  unfold rowV Tab.of
  cases hc : lookU c T.notes with
  | none => exact ⟨World.ownsRow_nil _ _ _ _, Nat.zero_le _, fun i j x y _ hx => by simp at hx, fun x hx => by simp at hx⟩
  | some l => exact ⟨(h.rows c l hc).1, (h.rows c l hc).2.2.1, (h.rows c l hc).2.2.2, h.numsL c l hc⟩
theorem RowN.block {w : World} {B : Nat} {V : Value} {l : List Nt} (h : RowN w B V l) {g : Nat} (hg : V.ownBlock = some g) : ∃ cs, w.heap[g]? = some (.cells cs 60 (0, 0)) := by
  rcases h.2 with ⟨rfl, _⟩ | ⟨g', cap, cur, rfl, _, hh, _⟩
  · simp [Value.ownBlock] at hg
  · simp [Value.ownBlock] at hg
    subst hg
    exact ⟨cur, hh⟩
theorem RowN.not_map {w : World} {B b : Nat} {V : Value} {l : List Nt} {kv : List (Nat × Value)} (h : RowN w B V l) (hm : MapB w b kv) : V.ownBlock ≠ some b := fun e => by
  obtain ⟨cs, h1⟩ := h.block e
  obtain ⟨es, c, h2, _⟩ := hm
  rw [h1] at h2
  cases h2
theorem blk_not_map {w : World} {b g : Nat} {t : TypeId} {cs : Array Value} {kv : List (Nat × Value)} (h : Blk w g t cs) (hm : MapB w b kv) : g ≠ b := fun e => by
  subst e
  obtain ⟨es, c, h2, _⟩ := hm
  unfold Blk at h
  rw [h] at h2
  cases h2
theorem RowN.not_blk {w : World} {B g : Nat} {V : Value} {l : List Nt} {t : TypeId} {cs : Array Value} (h : RowN w B V l) (hb : Blk w g t cs) (hne : 60 ≠ t) : V.ownBlock ≠ some g := fun e => by
  obtain ⟨cs', h1⟩ := h.block e
  unfold Blk at hb
  rw [h1] at hb
  injection hb with hb
  injection hb with _ hb
  exact hne hb

/-- Behind regions 14 to 16: the table with the note. -/
theorem TabIn.note {w0 w1 w2 : World} {B g N b1 b2 c v i : Nat} {T : Tab} {row : Nat → Value} {v' : Value} (h : TabIn w0 B g N T (some b1) (some b2) row) (hN : N < 1000000) (hv : T.newest < v) (hv2 : v < 9223372036854775808) (hi : i < 9223372036854775808)
    (ho : RowN w1 B v' (T.of c ++ [(v, i)])) (hg : Grown w0 w1 (rowV T row c) v' (some b1)) (hm : MapB w1 b1 (putU c v' (T.notes.map fun x => (x.1, row x.1))))
    (hm2 : MapB w2 b2 (putU v (u64v c) (T.who.map fun x => (x.1, u64v x.2)))) (hg2 : w1.grownBy w2 (some b2)) (hblk : Blk w1 g 29 #[.map (some b1), .map (some b2), u64v T.floor, u64v T.newest]) :
    TabIn (w2.setCell ⟨g, 3, none⟩ (u64v v)) B g (N + 1) (T.put c v i) (some b1) (some b2) (fun d => if d = c then v' else row d) := by
  have hbw := h.n1 b1 rfl
  have hbw2 := h.n2 b2 rfl
  have hgb1 : g ≠ b1 := blk_not_map hblk hm
  have hgb2 : g ≠ b2 := blk_not_map h.blk hbw2.2
  have hne12 : b1 ≠ b2 := fun e => h.ne b1 rfl (by rw [e])
  have hn3 : ∀ b, b ≠ g → (w2.setCell ⟨g, 3, none⟩ (u64v v)).heap[b]? = w2.heap[b]? := fun b hb => Below.heap_setCell w2 ⟨g, 3, none⟩ (u64v v) b hb
  obtain ⟨hrV, hlV, hsV, hnV⟩ := rowV_own h c
  have hof : ∀ d l, lookU d (T.put c v i).notes = some l → (d = c ∧ l = T.of c ++ [(v, i)]) ∨ (d ≠ c ∧ lookU d T.notes = some l) := fun d l hd => by
    simp only [Tab.put, lookU_put] at hd
    by_cases hdc : c = d
    · rw [if_pos hdc] at hd
      injection hd with hd
      exact .inl ⟨hdc.symm, hd.symm⟩
    · rw [if_neg hdc] at hd
      exact .inr ⟨fun e => hdc e.symm, hd⟩
  -- a row of the old table lies as it lay
  have hold : ∀ d l, d ≠ c → lookU d T.notes = some l → RowN (w2.setCell ⟨g, 3, none⟩ (u64v v)) B (row d) l := fun d l hdc hd => by
    have hr := (h.rows d l hd).1
    refine ⟨hr.1, ?_⟩
    rcases hr.2 with hnil | ⟨gd, cap, cur, e, hbd, hh, rest⟩
    · exact .inl hnil
    · refine .inr ⟨gd, cap, cur, e, hbd, ?_, rest⟩
      have hown : (row d).ownBlock = some gd := by rw [e]; rfl
      have hlt : gd < w0.heap.size := (Array.getElem?_eq_some_iff.1 hh).1
      have e1 : (rowV T row c).ownBlock ≠ some gd := fun e' => by
        unfold rowV at e'
        cases hc : lookU c T.notes with
        | none => rw [hc] at e'; simp [Value.ownBlock] at e'
        | some k =>
          rw [hc] at e'
          simp only [Option.isSome_some, if_true] at e'
          exact h.apart d c l k hd hc hdc (hown.trans e'.symm)
      have e2 : (row d).ownBlock ≠ some b1 := hr.not_map hbw.2
      have e3 : (row d).ownBlock ≠ some b2 := hr.not_map hbw2.2
      have e4 : (row d).ownBlock ≠ some g := hr.not_blk h.blk (by decide)
      rw [hown] at e2 e3 e4
      rw [hn3 gd (fun e => e4 (by rw [e])), hg2.block gd (Nat.lt_of_lt_of_le hlt hg.size) e3, hg.block gd hlt e1 (fun e => e2 e.symm), hh]
  have hnew : RowN (w2.setCell ⟨g, 3, none⟩ (u64v v)) B v' (T.of c ++ [(v, i)]) := by
    have e3 : v'.ownBlock ≠ some b2 := fun e => by
      rcases hg.own with e' | ⟨k, e', hk⟩
      · rw [e'] at e; exact hrV.not_map hbw2.2 e
      · rw [e'] at e; injection e with e; have := hbw2.2.lt; omega
    refine own_far (ho.kept hg2 (.inr e3)) ⟨g, 3, none⟩ (u64v v) ?_
    exact ho.not_blk hblk (by decide)
  have hm1' : MapB (w2.setCell ⟨g, 3, none⟩ (u64v v)) b1 (putU c v' (T.notes.map fun x => (x.1, row x.1))) := hm.keep ((hn3 b1 (Ne.symm hgb1)).trans (hg2.block b1 hm.lt (by simpa using hne12)))
  refine ⟨?_, h.base, ?_, ?_, (fun e => by cases e), (fun e => by cases e), h.ne, ?_, ?_, ?_, (putU_keys v c T.who h.nd2).1, ⟨h.nums.1, hv2, by omega⟩, ?_⟩
  · have hb2 : Blk w2 g 29 #[.map (some b1), .map (some b2), u64v T.floor, u64v T.newest] := hblk.grown hg2 (by simpa using hgb2)
    simpa [Tab.put] using hb2.set_ 3 (u64v v)
  · intro b e
    injection e with e
    subst e
    refine ⟨hbw.1, ?_⟩
    simp only [Tab.put]
    rw [putU_row row c _ v' T.notes h.nd]
    exact hm1'
  · intro b e
    injection e with e
    subst e
    refine ⟨hbw2.1, ?_⟩
    simp only [Tab.put]
    rw [putU_val u64v v c T.who]
    exact hm2.keep (hn3 b2 (Ne.symm hgb2))
  · intro d l hd
    rcases hof d l hd with ⟨rfl, rfl⟩ | ⟨hdc, hd'⟩
    · rw [if_pos rfl]
      refine ⟨hnew, by simp, by simp; omega, ?_⟩
      intro a b x y hab hx hy
      rw [List.getElem?_append] at hx hy
      split at hy
      · split at hx
        · exact hsV a b x y hab hx hy
        · omega
      · rename_i hb'
        have hy' : b - (T.of d).length = 0 ∧ (v, i) = y := by
          cases hq : b - (T.of d).length with
          | zero => rw [hq] at hy; simp at hy; exact ⟨rfl, hy⟩
          | succ n => rw [hq] at hy; simp at hy
        obtain ⟨_, rfl⟩ := hy'
        split at hx
        · have := (hnV x (List.mem_of_getElem? hx)).1
          simp only
          omega
        · omega
    · rw [if_neg hdc]
      obtain ⟨_, h2, h3, h4⟩ := h.rows d l hd'
      exact ⟨hold d l hdc hd', h2, by omega, h4⟩
  · intro d d' l k hd hd' hne
    have hvo : ∀ d k, d ≠ c → lookU d T.notes = some k → v'.ownBlock ≠ (row d).ownBlock := fun d k hdc hdk e => by
      obtain ⟨gd, cp, hrd, _⟩ := (h.rows d k hdk).1.read (h.rows d k hdk).2.1
      have hgd : (row d).ownBlock = some gd := by rw [hrd]; rfl
      rcases hg.own with e' | ⟨q, e', hq⟩
      · unfold rowV at e'
        cases hc : lookU c T.notes with
        | none => rw [hc] at e'; simp only [Option.isSome_none] at e'; rw [e, hgd] at e'; simp [Value.ownBlock] at e'
        | some k' =>
          rw [hc] at e'
          simp only [Option.isSome_some, if_true] at e'
          exact h.apart d c k k' hdk hc hdc (e.symm.trans e')
      · rw [e, hgd] at e'
        injection e' with e'
        have := (h.rows d k hdk).1.lt gd hgd
        omega
    rcases hof d l hd with ⟨rfl, rfl⟩ | ⟨h1, h1'⟩
    · rcases hof d' k hd' with ⟨rfl, rfl⟩ | ⟨h2, h2'⟩
      · exact absurd rfl hne
      · rw [if_pos rfl, if_neg h2]; exact hvo d' k h2 h2'
    · rcases hof d' k hd' with ⟨rfl, rfl⟩ | ⟨h2, h2'⟩
      · rw [if_neg h1, if_pos rfl]; exact (hvo d l h1 h1').symm
      · rw [if_neg h1, if_neg h2]; exact h.apart d d' l k h1' h2' hne
  · exact (putU_keys c _ T.notes h.nd).1
  · intro d l hd x hx
    rcases hof d l hd with ⟨rfl, rfl⟩ | ⟨h1, h1'⟩
    · rcases List.mem_append.1 hx with hx | hx
      · have := hnV x hx
        exact ⟨by simp only [Tab.put]; omega, this.2⟩
      · simp at hx
        subst hx
        exact ⟨Nat.le_refl _, hi⟩
    · have := h.numsL d l h1' x hx
      exact ⟨by simp only [Tab.put]; omega, this.2⟩

/-- The two maps, made. -/
theorem TabIn.made {w : World} {B g N : Nat} {T : Tab} {m2 : Option Nat} {row : Nat → Value} (h : TabIn w B g N T none m2 row) (hB : B ≤ w.heap.size) :
    TabIn ((((w.alloc (.map #[] 0)).alloc (.map #[] 0)).setCell ⟨g, 0, none⟩ (.map (some w.heap.size))).setCell ⟨g, 1, none⟩ (.map (some (w.heap.size + 1)))) B g N T (some w.heap.size) (some (w.heap.size + 1)) row ∧
    Below B w ((((w.alloc (.map #[] 0)).alloc (.map #[] 0)).setCell ⟨g, 0, none⟩ (.map (some w.heap.size))).setCell ⟨g, 1, none⟩ (.map (some (w.heap.size + 1)))) := by
  obtain ⟨hn, hw, rfl⟩ := h.z1 rfl
  have hg := h.blk.lt
  have hb := (h.blk.alloc (.map #[] 0)).alloc (.map #[] 0)
  have hb1 := hb.set_ 0 (.map (some w.heap.size))
  have hb2 := hb1.set_ 1 (.map (some (w.heap.size + 1)))
  have hm1 : MapB ((w.alloc (.map #[] 0)).alloc (.map #[] 0)) w.heap.size [] := (MapB.new w).under (bel_new _ _)
  have hm2 : MapB ((w.alloc (.map #[] 0)).alloc (.map #[] 0)) (w.heap.size + 1) [] := by
    have := MapB.new (w.alloc (.map #[] 0))
    rwa [World.size_alloc] at this
  have hk : ∀ b, b ≠ g → ((((w.alloc (.map #[] 0)).alloc (.map #[] 0)).setCell ⟨g, 0, none⟩ (.map (some w.heap.size))).setCell ⟨g, 1, none⟩ (.map (some (w.heap.size + 1)))).heap[b]? = ((w.alloc (.map #[] 0)).alloc (.map #[] 0)).heap[b]? := fun b hb =>
    (Below.heap_setCell _ ⟨g, 1, none⟩ _ b hb).trans (Below.heap_setCell _ ⟨g, 0, none⟩ _ b hb)
  refine ⟨⟨by simpa using hb2, h.base, ?_, ?_, (fun e => by cases e), (fun e => by cases e), ?_, ?_, ?_, h.nd, h.nd2, h.nums, h.numsL⟩, ?_⟩
  · intro b e
    injection e with e
    subst e
    refine ⟨hB, ?_⟩
    rw [hn]
    exact hm1.keep (hk _ (by omega))
  · intro b e
    injection e with e
    subst e
    refine ⟨by omega, ?_⟩
    rw [hw]
    exact hm2.keep (hk _ (by omega))
  · intro b e e'
    injection e with e
    injection e' with e'
    omega
  · intro c l hc
    rw [hn] at hc
    simp [lookU] at hc
  · intro c d l k hc
    rw [hn] at hc
    simp [lookU] at hc
  · have h0 : Below B w ((w.alloc (.map #[] 0)).alloc (.map #[] 0)) := ((Below.refl B w).alloc hB _).alloc (by simp; omega) _
    exact (h0.setCell (p := ⟨g, 0, none⟩) h.base _).setCell (p := ⟨g, 1, none⟩) h.base _
/-- What is of no table stays. -/
def OffT (w w' : World) : Prop := ∀ (b : Nat) (cs : Array Value) (t : TypeId) (fr : Nat × Nat), w.heap[b]? = some (.cells cs t fr) → t ≠ 29 → t ≠ 60 → w'.heap[b]? = w.heap[b]?
theorem heap_lt {w : World} {b : Nat} {o : Obj} (h : w.heap[b]? = some o) : b < w.heap.size := (Array.getElem?_eq_some_iff.1 h).1
theorem OffT.of_below {w w' : World} (h : Below w.heap.size w w') : OffT w w' := fun b _ _ _ hb _ _ => h.block b (heap_lt hb)
theorem OffT.trans {w w1 w2 : World} (h : OffT w w1) (k : OffT w1 w2) : OffT w w2 := by
  intro b cs t fr hb h1 h2
  have e := h b cs t fr hb h1 h2
  exact (k b cs t fr (e.trans hb) h1 h2).trans e
theorem OffT.made {w : World} {B g N : Nat} {T : Tab} {m2 : Option Nat} {row : Nat → Value} (h : TabIn w B g N T none m2 row) :
    OffT w ((((w.alloc (.map #[] 0)).alloc (.map #[] 0)).setCell ⟨g, 0, none⟩ (.map (some w.heap.size))).setCell ⟨g, 1, none⟩ (.map (some (w.heap.size + 1)))) := by
  intro b cs t fr hb h1 h2
  have hbg : b ≠ g := fun e => by
    subst e
    have := h.blk
    unfold Blk at this
    rw [hb] at this
    injection this with this
    injection this with _ this
    exact h1 this
  have hlt := heap_lt hb
  exact ((Below.heap_setCell _ ⟨g, 1, none⟩ _ b hbg).trans (Below.heap_setCell _ ⟨g, 0, none⟩ _ b hbg)).trans ((bel_al (bel_new w (.map #[] 0)) (.map #[] 0)).block b hlt)
theorem OffT.noted {w0 w1 w2 : World} {B g N b1 b2 c : Nat} {T : Tab} {row : Nat → Value} {v' u : Value} (h : TabIn w0 B g N T (some b1) (some b2) row) (hg : Grown w0 w1 (rowV T row c) v' (some b1)) (hg2 : w1.grownBy w2 (some b2)) : OffT w0 (w2.setCell ⟨g, 3, none⟩ u) := by
  intro b cs t fr hb h1 h2
  have hlt := heap_lt hb
  have hbg : b ≠ g := fun e => by
    subst e
    have := h.blk
    unfold Blk at this
    rw [hb] at this
    injection this with this
    injection this with _ this
    exact h1 this
  have hv : (rowV T row c).ownBlock ≠ some b := fun e => by
    obtain ⟨cs', hh⟩ := (rowV_own h c).1.block e
    rw [hb] at hh
    injection hh with hh
    injection hh with _ hh
    exact h2 hh
  have hm : ∀ b0 kv, MapB w0 b0 kv → b ≠ b0 := fun b0 kv hm e => by
    subst e
    obtain ⟨es, k, hh, _⟩ := hm
    rw [hb] at hh
    cases hh
  have e1 := hg.block b hlt hv (fun e => by injection e with e; exact hm b1 _ (h.n1 b1 rfl).2 e.symm)
  have e2 : w2.heap[b]? = w1.heap[b]? := hg2.block b (Nat.lt_of_lt_of_le hlt hg.size) (fun e => by injection e with e; exact hm b2 _ (h.n2 b2 rfl).2 e)
  exact ((Below.heap_setCell _ ⟨g, 3, none⟩ _ b hbg).trans e2).trans e1
def NotePost (B g N : Nat) (T : Tab) (w : World) (e : Ending) (w' : World) : Prop := e = .returned (.int .i64 0) ∧ (∃ m1 m2 row, TabIn w' B g N T m1 m2 row) ∧ Below B w w' ∧ OffT w w'
set_option maxRecDepth 100000 in
set_option maxHeartbeats 4000000 in
theorem tnote_ok {w : World} {B g N : Nat} {T : Tab} {m1 m2 : Option Nat} {row : Nat → Value} (h : TabIn w B g N T m1 m2 row) (hB : B ≤ w.heap.size) (hN : N < 1000000) (c v i : Nat) (hl : T.last c < 9223372036854775808) (hc : T.code c v i = 0) :
    Calls Try.prog 6 #[.pointer (some ⟨g, 0, none⟩), u64v c, u64v v, u64v i] w (NotePost B g (N + 1) (T.put c v i) w) := by
  have Hl := Lib.hid (tlast_any h c)
  have c0 := h.blk.cell 0
  have c3 := h.blk.cell 3
  simp at c0 c3
  obtain ⟨hc1, hc2, hc3, hc4, hc5, hc6⟩ : mayN c = true ∧ mayN v = true ∧ mayN i = true ∧ T.newest < v ∧ T.last c < i ∧ i ≤ T.last c + 1 := by
    unfold Tab.code at hc
    cases h1 : mayN c <;> cases h2 : mayN v <;> cases h3 : mayN i <;> simp [h1, h2, h3] at hc
    by_cases h4 : v ≤ T.newest ∨ i ≤ T.last c
    · rw [if_pos h4] at hc; cases hc
    · rw [if_neg h4] at hc
      by_cases h5 : T.last c + 1 < i
      · rw [if_pos h5] at hc; cases hc
      · exact ⟨rfl, rfl, rfl, by omega, by omega, by omega⟩
  have hvn : v ≤ 4611686018427387903 := by simp [mayN] at hc2; omega
  have hin : i ≤ 4611686018427387903 := by simp [mayN] at hc3; omega
  have Hm1 := Lib.hid (tmay_any c w)
  have Hm2 := Lib.hid (tmay_any v w)
  have Hm3 := Lib.hid (tmay_any i w)
  rw [hc1] at Hm1
  rw [hc2] at Hm2
  rw [hc3] at Hm3
  have d1 : decide (v ≤ T.newest) = false := decide_eq_false (by omega)
  have d2 : decide (i ≤ T.last c) = false := decide_eq_false (by omega)
  have d3 : decide ((T.last c : Int) + 1 < (i : Int)) = false := decide_eq_false (by omega)
  have qn : ∀ (W : World) (r : Option Nat), (binOp .eql 26 (.map r) (.map none)).run Try.prog W = .ok (.bool r.isNone) W := fun W r => run_eql_map_nil W _ _ _ r Try.underlying26
  have hmm := @run_makeMap Try.prog
  have Hc := Lib.hid (And.intro hc4 (And.intro hvn hin))
  have H := Lib.hid h
  clear hc hc1 hc2 hc3 h
  go_enter Try.func6, Try.ntmps6
  go_upto_region 6 with (first
    | (go_at_call 12; refine Hl.out.mono ?_; rintro e w1 ⟨rfl, rfl⟩)
    | (go_at_call 18; refine Hm1.out.mono ?_; rintro e w1 ⟨rfl, rfl⟩))
  go_wp2_with fail
  refine Hm2.out.mono ?_
  rintro e w1 ⟨rfl, rfl⟩
  go_wp2_with fail
  refine Hm3.out.mono ?_
  rintro e w1 ⟨rfl, rfl⟩
  clear Hm1 Hm2 Hm3 Hl
  go_upto_if 50 with fail
  go_cut [51] (fun v51 W => Hid (∃ b1 b2 row', TabIn W B g N T (some b1) (some b2) row') ∧ Hid (Below B w W) ∧ Hid (OffT w W))
  case first =>
    cases m1 with
    | some b =>
      cases m2 with
      | none => exact absurd (H.out.z2 rfl) (by simp)
      | some b2 =>
        go_wp2_with fail
        go_meet
        exact ⟨⟨b, b2, row, H.out⟩, Below.refl _ _, OffT.of_below (Below.refl _ _)⟩
    | none =>
      have k0 := ((H.out.blk.alloc (.map #[] 0)).alloc (.map #[] 0)).cell 0
      have k1 := ((H.out.blk.alloc (.map #[] 0)).alloc (.map #[] 0)).cell 1
      have f0 := ((H.out.blk.alloc (.map #[] 0)).alloc (.map #[] 0)).frozen 0
      have f1 := ((H.out.blk.alloc (.map #[] 0)).alloc (.map #[] 0)).frozen 1
      simp at k0 k1
      go_wp2_with fail
      go_meet
      have hmd := H.out.made hB
      exact ⟨Lib.hid ⟨_, _, _, hmd.1⟩, Lib.hid hmd.2, Lib.hid (OffT.made H.out)⟩
  case rest =>
    obtain ⟨Ht, Hb, Hoff⟩ := hcut
    obtain ⟨b1, b2, row1, ht⟩ := Ht.out
    have hBw : B ≤ wc.heap.size := Nat.le_trans hB Hb.out.size
    have HLK : Hid (∀ W, Below wc.heap.size wc W → (Instr.lookup 26 (.map (some b1)) (u64v c) false).run Try.prog W = .ok (rowV T row1 c) W) := Lib.hid fun W hW => (ht.under hW).look1 c
    have hrv := rowV_own ht c
    have HR := Lib.hid hrv.1
    have hlen : (T.of c).length ≤ N := hrv.2.1
    have hbw := ht.n1 b1 rfl
    have HM := Lib.hid hbw.2
    have HVb := Lib.hid (hrv.1.not_map hbw.2)
    have HVg := Lib.hid (hrv.1.not_blk ht.blk (by decide))
    have Hgb := Lib.hid (blk_not_map ht.blk hbw.2)
    have HT := Lib.hid ht
    have Hblk := Lib.hid ht.blk
    obtain ⟨i0, z0, hi, hz0, hz1, hz2, hz3⟩ := info_parts2 infoNote
    clear Ht ht hrv hbw H hl hc4 hc5 hc6 hvn hin d1 d2 d3 c0 c3
    generalize hV : rowV T row1 c = V at *
    have HV := Lib.hid hV
    clear hV
    go_wp2_with fail
    refine wp_region_from (fun a0 W0 => I14 B g b1 c v i V (T.of c) (T.notes.map fun x => (x.1, row1 x.1)) #[.map (some b1), .map (some b2), u64v T.floor, u64v T.newest] a0 W0) (by kernel_rfl) (by kernel_rfl) ?start ?steps ?done
    case start =>
      exact ⟨Off.refl _ _, Tabl.none _ _, Hblk.out, ⟨fun h => h.elim, fun h => h.elim, fun _ => (Below.refl _ _).drew, fun h => h.elim, fun h => h.elim, fun h => h.elim, fun h => h.elim, fun h => h.elim⟩⟩
    case steps =>
      rintro J rfl
      refine ⟨?s0, ?s1, ?s2, ?s3, ?s4, ?s5, ?s6, ?s7, ?s8, ?s9, ?s10, ?s11, ?s12, ?s13, ?s14, ?s15, ?s16, trivial⟩
      case s0 =>
        rintro L A W ⟨hoff, htab, hblk, h14⟩ hn hw K hK
        have hsz := Lib.hid (show A.tmps.size = 85 from hoff.size)
        have p0 : A.tmps[0]? = some (.pointer (some ⟨g, 0, none⟩)) := hoff.same 0 (by decide)
        go_simp
        exact hK (A.put (some 59) _) W ⟨hoff.put 59 (by decide) _, htab.put (by have := hsz.out; omega) (by rintro j e u hm rfl; simpa using hm) (by rintro j e u hm rfl; simp at hm; exact hm.1), hblk, ((h14.put 59 _ (by decide) (by decide)).cast (orF (i := 0) (j := 10) rfl) (orF (i := 0) (j := 14) rfl) (orF (i := 0) (j := 15) rfl) (orF (i := 0) (j := 16) rfl))⟩
      case s1 =>
        rintro L A W ⟨hoff, htab, hblk, h14⟩ hn hw K hK
        have hsz := Lib.hid (show A.tmps.size = 85 from hoff.size)
        have s0 : A.tmps[59]? = some (.pointer (some ⟨g, 0, none⟩)) := htab 0 59 _ (by simp) (hw 0 (by simp [waitsFor, Region.binds]))
        go_simp
        exact hK (A.put (some 60) _) W ⟨hoff.put 60 (by decide) _, htab.put (by have := hsz.out; omega) (by rintro j e u hm rfl; simpa using hm) (by rintro j e u hm rfl; simp at hm; exact hm.1), hblk, ((h14.put 60 _ (by decide) (by decide)).cast (orF (i := 1) (j := 10) rfl) (orF (i := 1) (j := 14) rfl) (orF (i := 1) (j := 15) rfl) (orF (i := 1) (j := 16) rfl))⟩
      case s2 =>
        rintro L A W ⟨hoff, htab, hblk, h14⟩ hn hw K hK
        have hsz := Lib.hid (show A.tmps.size = 85 from hoff.size)
        have s1 : A.tmps[60]? = some (.pointer (some ⟨g, 0, none⟩)) := htab 1 60 _ (by simp) (hw 1 (by simp [waitsFor, Region.binds]))
        go_simp
        exact hK (A.put (some 61) _) W ⟨hoff.put 61 (by decide) _, htab.put (by have := hsz.out; omega) (by rintro j e u hm rfl; simpa using hm) (by rintro j e u hm rfl; simp at hm; exact hm.1), hblk, ((h14.put 61 _ (by decide) (by decide)).cast (orF (i := 2) (j := 10) rfl) (orF (i := 2) (j := 14) rfl) (orF (i := 2) (j := 15) rfl) (orF (i := 2) (j := 16) rfl))⟩
      case s3 =>
        rintro L A W ⟨hoff, htab, hblk, h14⟩ hn hw K hK
        have hsz := Lib.hid (show A.tmps.size = 85 from hoff.size)
        have s2 : A.tmps[61]? = some (.pointer (some ⟨g, 0, none⟩)) := htab 2 61 _ (by simp) (hw 2 (by simp [waitsFor, Region.binds]))
        have cc : W.cell? ⟨g, 0, none⟩ = some (.map (some b1)) := hblk.cell 0
        go_simp
        exact hK (A.put (some 62) _) W ⟨hoff.put 62 (by decide) _, htab.put (by have := hsz.out; omega) (by rintro j e u hm rfl; simpa using hm) (by rintro j e u hm rfl; simp at hm; exact hm.1), hblk, ((h14.put 62 _ (by decide) (by decide)).cast (orF (i := 3) (j := 10) rfl) (orF (i := 3) (j := 14) rfl) (orF (i := 3) (j := 15) rfl) (orF (i := 3) (j := 16) rfl))⟩
      case s4 =>
        rintro L A W ⟨hoff, htab, hblk, h14⟩ hn hw K hK
        have hsz := Lib.hid (show A.tmps.size = 85 from hoff.size)
        have p1 : A.tmps[1]? = some (u64v c) := hoff.same 1 (by decide)
        go_simp
        exact hK (A.put (some 63) _) W ⟨hoff.put 63 (by decide) _, htab.put (by have := hsz.out; omega) (by rintro j e u hm rfl; simpa using hm) (by rintro j e u hm rfl; simp at hm; exact hm.1), hblk, ((h14.put 63 _ (by decide) (by decide)).cast (orF (i := 4) (j := 10) rfl) (orF (i := 4) (j := 14) rfl) (orF (i := 4) (j := 15) rfl) (orF (i := 4) (j := 16) rfl))⟩
      case s5 =>
        rintro L A W ⟨hoff, htab, hblk, h14⟩ hn hw K hK
        have hsz := Lib.hid (show A.tmps.size = 85 from hoff.size)
        have p0 : A.tmps[0]? = some (.pointer (some ⟨g, 0, none⟩)) := hoff.same 0 (by decide)
        go_simp
        exact hK (A.put (some 64) _) W ⟨hoff.put 64 (by decide) _, htab.put (by have := hsz.out; omega) (by rintro j e u hm rfl; simpa using hm) (by rintro j e u hm rfl; simp at hm; exact hm.1), hblk, ((h14.put 64 _ (by decide) (by decide)).cast (orF (i := 5) (j := 10) rfl) (orF (i := 5) (j := 14) rfl) (orF (i := 5) (j := 15) rfl) (orF (i := 5) (j := 16) rfl))⟩
      case s6 =>
        rintro L A W ⟨hoff, htab, hblk, h14⟩ hn hw K hK
        have hsz := Lib.hid (show A.tmps.size = 85 from hoff.size)
        have s5 : A.tmps[64]? = some (.pointer (some ⟨g, 0, none⟩)) := htab 5 64 _ (by simp) (hw 5 (by simp [waitsFor, Region.binds]))
        go_simp
        exact hK (A.put (some 65) _) W ⟨hoff.put 65 (by decide) _, htab.put (by have := hsz.out; omega) (by rintro j e u hm rfl; simpa using hm) (by rintro j e u hm rfl; simp at hm; exact hm.1), hblk, ((h14.put 65 _ (by decide) (by decide)).cast (orF (i := 6) (j := 10) rfl) (orF (i := 6) (j := 14) rfl) (orF (i := 6) (j := 15) rfl) (orF (i := 6) (j := 16) rfl))⟩
      case s7 =>
        rintro L A W ⟨hoff, htab, hblk, h14⟩ hn hw K hK
        have hsz := Lib.hid (show A.tmps.size = 85 from hoff.size)
        have s6 : A.tmps[65]? = some (.pointer (some ⟨g, 0, none⟩)) := htab 6 65 _ (by simp) (hw 6 (by simp [waitsFor, Region.binds]))
        go_simp
        exact hK (A.put (some 66) _) W ⟨hoff.put 66 (by decide) _, htab.put (by have := hsz.out; omega) (by rintro j e u hm rfl; simpa using hm) (by rintro j e u hm rfl; simp at hm; exact hm.1), hblk, ((h14.put 66 _ (by decide) (by decide)).cast (orF (i := 7) (j := 10) rfl) (orF (i := 7) (j := 14) rfl) (orF (i := 7) (j := 15) rfl) (orF (i := 7) (j := 16) rfl))⟩
      case s8 =>
        rintro L A W ⟨hoff, htab, hblk, h14⟩ hn hw K hK
        have hsz := Lib.hid (show A.tmps.size = 85 from hoff.size)
        have s7 : A.tmps[66]? = some (.pointer (some ⟨g, 0, none⟩)) := htab 7 66 _ (by simp) (hw 7 (by simp [waitsFor, Region.binds]))
        have cc : W.cell? ⟨g, 0, none⟩ = some (.map (some b1)) := hblk.cell 0
        go_simp
        exact hK (A.put (some 67) _) W ⟨hoff.put 67 (by decide) _, htab.put (by have := hsz.out; omega) (by rintro j e u hm rfl; simpa using hm) (by rintro j e u hm rfl; simp at hm; exact hm.1), hblk, ((h14.put 67 _ (by decide) (by decide)).cast (orF (i := 8) (j := 10) rfl) (orF (i := 8) (j := 14) rfl) (orF (i := 8) (j := 15) rfl) (orF (i := 8) (j := 16) rfl))⟩
      case s9 =>
        rintro L A W ⟨hoff, htab, hblk, h14⟩ hn hw K hK
        have hsz := Lib.hid (show A.tmps.size = 85 from hoff.size)
        have p1 : A.tmps[1]? = some (u64v c) := hoff.same 1 (by decide)
        go_simp
        exact hK (A.put (some 68) _) W ⟨hoff.put 68 (by decide) _, htab.put (by have := hsz.out; omega) (by rintro j e u hm rfl; simpa using hm) (by rintro j e u hm rfl; simp at hm; exact hm.1), hblk, ((h14.put 68 _ (by decide) (by decide)).cast (orF (i := 9) (j := 10) rfl) (orF (i := 9) (j := 14) rfl) (orF (i := 9) (j := 15) rfl) (orF (i := 9) (j := 16) rfl))⟩
      case s10 =>
        rintro L A W ⟨hoff, htab, hblk, h14⟩ hn hw K hK
        have hsz := Lib.hid (show A.tmps.size = 85 from hoff.size)
        have s8 : A.tmps[67]? = some (.map (some b1)) := htab 8 67 _ (by simp) (hw 8 (by simp [waitsFor, Region.binds]))
        have s9 : A.tmps[68]? = some (u64v c) := htab 9 68 _ (by simp) (hw 9 (by simp [waitsFor, Region.binds]))
        have hlk := HLK.out W (h14.bel fun h => hn (h14.q15 h).1)
        go_simp
        exact hK (A.put (some 69) _) W ⟨hoff.put 69 (by decide) _, htab.put (by have := hsz.out; omega) (by rintro j e u hm rfl; simpa using hm) (by rintro j e u hm rfl; simp at hm; exact hm.1), hblk, (((h14.put 69 _ (by decide) (by decide)).more (q10 := 10 = 10 ∨ L 10) .inr).cast rfl (orF (i := 10) (j := 14) rfl) (orF (i := 10) (j := 15) rfl) (orF (i := 10) (j := 16) rfl))⟩
      case s11 =>
        rintro L A W ⟨hoff, htab, hblk, h14⟩ hn hw K hK
        have hsz := Lib.hid (show A.tmps.size = 85 from hoff.size)
        have p2 : A.tmps[2]? = some (u64v v) := hoff.same 2 (by decide)
        go_simp
        exact hK (A.put (some 70) _) W ⟨hoff.put 70 (by decide) _, htab.put (by have := hsz.out; omega) (by rintro j e u hm rfl; simpa using hm) (by rintro j e u hm rfl; simp at hm; exact hm.1), hblk, ((h14.put 70 _ (by decide) (by decide)).cast (orF (i := 11) (j := 10) rfl) (orF (i := 11) (j := 14) rfl) (orF (i := 11) (j := 15) rfl) (orF (i := 11) (j := 16) rfl))⟩
      case s12 =>
        rintro L A W ⟨hoff, htab, hblk, h14⟩ hn hw K hK
        have hsz := Lib.hid (show A.tmps.size = 85 from hoff.size)
        have p3 : A.tmps[3]? = some (u64v i) := hoff.same 3 (by decide)
        go_simp
        exact hK (A.put (some 71) _) W ⟨hoff.put 71 (by decide) _, htab.put (by have := hsz.out; omega) (by rintro j e u hm rfl; simpa using hm) (by rintro j e u hm rfl; simp at hm; exact hm.1), hblk, ((h14.put 71 _ (by decide) (by decide)).cast (orF (i := 12) (j := 10) rfl) (orF (i := 12) (j := 14) rfl) (orF (i := 12) (j := 15) rfl) (orF (i := 12) (j := 16) rfl))⟩
      case s13 =>
        rintro L A W ⟨hoff, htab, hblk, h14⟩ hn hw K hK
        have hsz := Lib.hid (show A.tmps.size = 85 from hoff.size)
        have s11 : A.tmps[70]? = some (u64v v) := htab 11 70 _ (by simp) (hw 11 (by simp [waitsFor, Region.binds]))
        have s12 : A.tmps[71]? = some (u64v i) := htab 12 71 _ (by simp) (hw 12 (by simp [waitsFor, Region.binds]))
        go_simp
        exact hK (A.put (some 72) _) W ⟨hoff.put 72 (by decide) _, htab.put (by have := hsz.out; omega) (by rintro j e u hm rfl; simpa using hm) (by rintro j e u hm rfl; simp at hm; exact hm.1), hblk, ((h14.put 72 _ (by decide) (by decide)).cast (orF (i := 13) (j := 10) rfl) (orF (i := 13) (j := 14) rfl) (orF (i := 13) (j := 15) rfl) (orF (i := 13) (j := 16) rfl))⟩
      case s14 =>
        rintro L A W ⟨hoff, htab, hblk, h14⟩ hn hw K hK
        have hsz := Lib.hid (show A.tmps.size = 85 from hoff.size)
        have s13 : A.tmps[72]? = some (.agg #[u64v v, u64v i]) := htab 13 72 _ (by simp) (hw 13 (by simp [waitsFor, Region.binds]))
        have n15 : ¬ L 15 := fun h => hn (h14.q15 h).2
        have n16 : ¬ L 16 := fun h => n15 (h14.q16 h)
        have hb := h14.bel n15
        go_simp
        refine hK (A.put (some 73) _) _ ⟨hoff.put 73 (by decide) _, htab.far (by intro j e u hm; simp at hm; omega), hblk.alloc _, ?_⟩
        refine W14.cast (p14 := 14 = 14 ∨ L 14) ?_ (orF (i := 14) (j := 10) rfl) rfl (orF (i := 14) (j := 15) rfl) (orF (i := 14) (j := 16) rfl)
        exact ⟨fun h => absurd h n15, h14.q16, fun _ => bel_al hb _, fun _ _ => ⟨_, Slot.put _ (by have := hsz.out; omega), Blk.new _ _ _⟩, fun _ => ⟨_, Slot.put (a := A) (d := 73) _ (by have := hsz.out; omega)⟩, fun h => absurd h n15, fun h => absurd h n15, fun h => absurd h n16⟩
      case s15 =>
        rintro L A W ⟨hoff, htab, hblk, h14⟩ hn hw K hK
        have hsz := Lib.hid (show A.tmps.size = 85 from hoff.size)
        have s10 : Slot A 69 V := htab 10 69 _ (by simp) (hw 10 (by simp [waitsFor, Region.binds]))
        have l10 : L 10 := hw 10 (by simp [waitsFor, Region.binds])
        have l14 : L 14 := hw 14 (by simp [waitsFor, Region.binds])
        have n16 : ¬ L 16 := fun h => hn (h14.q16 h)
        have hb := h14.bel hn
        obtain ⟨b0, s73, hb0⟩ := h14.new l14 hn
        have hrw := own_under HR.out hb
        refine step_append_at W rfl (.tmp 69) (.tmp 73) 58 rfl B 60 i0 z0 2 16 Try.underlying58 hi hz0 hz1 hz2 hz3 (by decide) V _ _ (slot_eval s10) hrw ⟨b0, 0, none⟩ 1 1 [u64v v, u64v i] (slot_eval s73) rfl hb0.cells
          (fun u hu => by simp at hu; rcases hu with rfl | rfl <;> rfl) (by unfold maxLen; omega) (by omega) (Nat.le_trans hBw hb.size) fun v' w' ho hgr hat => ?_
        have hbb : ∀ b, b < wc.heap.size → V.ownBlock ≠ some b → w'.heap[b]? = wc.heap[b]? := fun b hl hne => (hgr.block b (Nat.lt_of_lt_of_le hl hb.size) (fun e => hne e.symm)).trans (hb.block b hl)
        refine hK (A.put (some 74) v') w' ⟨hoff.put 74 (by decide) _, htab.far (by intro j e u hm; simp at hm; omega), ?_, ?_⟩
        · exact (hgr.block g hblk.lt (fun e => HVg.out e.symm)).trans hblk
        · refine W14.cast (p15 := 15 = 15 ∨ L 15) ?_ (orF (i := 15) (j := 10) rfl) (orF (i := 15) (j := 14) rfl) rfl (orF (i := 15) (j := 16) rfl)
          refine ⟨fun _ => ⟨l10, l14⟩, fun h => absurd h n16, fun h => absurd (Or.inl rfl) h, fun _ h => absurd (Or.inl rfl) h, fun h => (h14.s73 h).imp fun u s => s.far _ (by decide), fun _ => ⟨v', Slot.put (a := A) (d := 74) _ (by have := hsz.out; omega)⟩, fun _ _ => ⟨v', Slot.put _ (by have := hsz.out; omega), ?_, ?_, ?_⟩, fun h => absurd h n16⟩
          · show w'.ownsRow B 60 2 v' (T.of c ++ [(v, i)]).length (ncells (T.of c ++ [(v, i)]))
            rw [ncells_append, List.length_append]; exact ho
          · refine ⟨hgr.os.trans hb.os, hgr.tape.trans hb.tape, hgr.output.trans hb.output, Nat.le_trans hb.size hgr.size, fun b hl hne _ => hbb b hl hne, hat.imp id fun e => ⟨_, e, hb.size⟩⟩
          · exact HM.out.keep (hbb b1 HM.out.lt HVb.out)
      case s16 =>
        rintro L A W ⟨hoff, htab, hblk, h14⟩ hn hw K hK
        have hsz := Lib.hid (show A.tmps.size = 85 from hoff.size)
        have s3 : Slot A 62 (.map (some b1)) := htab 3 62 _ (by simp) (hw 3 (by simp [waitsFor, Region.binds]))
        have s4 : Slot A 63 (u64v c) := htab 4 63 _ (by simp) (hw 4 (by simp [waitsFor, Region.binds]))
        have l15 : L 15 := hw 15 (by simp [waitsFor, Region.binds])
        obtain ⟨v', s74, ho, hgr, hmb⟩ := h14.app l15 hn
        refine step_store_u rfl (.tmp 62) (.tmp 63) (.tmp 74) 26 rfl 22 58 Try.underlying26 Try.underlying22 b1 _ (slot_eval s3) hmb c v' (slot_eval s4) (slot_eval s74) fun w' hm' hg' => ?_
        have hne : v'.ownBlock ≠ some b1 := fun e => by
          rcases hgr.own with e' | ⟨h, e', hh⟩
          · rw [e'] at e; exact HVb.out e
          · rw [e'] at e; injection e with e; have := HM.out.lt; omega
        refine hK A w' ⟨hoff, htab.stay (by intro j e u hm; simp at hm; omega), (hg'.block g hblk.lt (by simpa using Hgb.out)).trans hblk, ?_⟩
        refine W14.cast (p16 := 16 = 16 ∨ L 16) ?_ (orF (i := 16) (j := 10) rfl) (orF (i := 16) (j := 14) rfl) (orF (i := 16) (j := 15) rfl) rfl
        refine ⟨h14.q15, fun _ => l15, fun h => absurd l15 h, fun _ h => absurd l15 h, h14.s73, h14.s74, fun _ h => absurd (Or.inl rfl) h, fun _ => ⟨v', ho.kept hg' (.inr hne), ?_, hm'⟩⟩
        exact ⟨hg'.os.trans hgr.os, hg'.tape.trans hgr.tape, hg'.output.trans hgr.output, Nat.le_trans hgr.size hg'.size, fun b hl h1 h2 => (hg'.block b (Nat.lt_of_lt_of_le hl hgr.size) (fun e => h2 e.symm)).trans (hgr.block b hl h1 (by simp)), hgr.own⟩
    case done =>
      rintro L A W ⟨hoff, htab, hblk, h14⟩ hall
      have hl : ∀ k, k < 17 → L k := fun k hk => hall k hk
      obtain ⟨v', ho, hgr, hmb⟩ := h14.fin (hl 16 (by decide))
      obtain ⟨u73, s73⟩ := h14.s73 (hl 14 (by decide))
      obtain ⟨u74, s74⟩ := h14.s74 (hl 15 (by decide))
      obtain rfl := hoff.act (fun t => if t = 73 then u73 else if t = 74 then u74 else (lookU t ((tab14 g b1 c v i V).map fun x => (x.2.1, x.2.2))).getD undef) (fun d hd => by
        simp only [List.mem_cons, List.not_mem_nil, or_false] at hd
        rcases hd with rfl | rfl | rfl | rfl | rfl | rfl | rfl | rfl | rfl | rfl | rfl | rfl | rfl | rfl | rfl | rfl
        · have q : Slot A 59 (.pointer (some ⟨g, 0, none⟩)) := htab 0 59 (.pointer (some ⟨g, 0, none⟩)) (by simp) (hl 0 (by decide))
          exact q
        · have q : Slot A 60 (.pointer (some ⟨g, 0, none⟩)) := htab 1 60 (.pointer (some ⟨g, 0, none⟩)) (by simp) (hl 1 (by decide))
          exact q
        · have q : Slot A 61 (.pointer (some ⟨g, 0, none⟩)) := htab 2 61 (.pointer (some ⟨g, 0, none⟩)) (by simp) (hl 2 (by decide))
          exact q
        · have q : Slot A 62 (.map (some b1)) := htab 3 62 (.map (some b1)) (by simp) (hl 3 (by decide))
          exact q
        · have q : Slot A 63 (u64v c) := htab 4 63 (u64v c) (by simp) (hl 4 (by decide))
          exact q
        · have q : Slot A 64 (.pointer (some ⟨g, 0, none⟩)) := htab 5 64 (.pointer (some ⟨g, 0, none⟩)) (by simp) (hl 5 (by decide))
          exact q
        · have q : Slot A 65 (.pointer (some ⟨g, 0, none⟩)) := htab 6 65 (.pointer (some ⟨g, 0, none⟩)) (by simp) (hl 6 (by decide))
          exact q
        · have q : Slot A 66 (.pointer (some ⟨g, 0, none⟩)) := htab 7 66 (.pointer (some ⟨g, 0, none⟩)) (by simp) (hl 7 (by decide))
          exact q
        · have q : Slot A 67 (.map (some b1)) := htab 8 67 (.map (some b1)) (by simp) (hl 8 (by decide))
          exact q
        · have q : Slot A 68 (u64v c) := htab 9 68 (u64v c) (by simp) (hl 9 (by decide))
          exact q
        · have q : Slot A 69 (V) := htab 10 69 (V) (by simp) (hl 10 (by decide))
          exact q
        · have q : Slot A 70 (u64v v) := htab 11 70 (u64v v) (by simp) (hl 11 (by decide))
          exact q
        · have q : Slot A 71 (u64v i) := htab 12 71 (u64v i) (by simp) (hl 12 (by decide))
          exact q
        · have q : Slot A 72 (.agg #[u64v v, u64v i]) := htab 13 72 (.agg #[u64v v, u64v i]) (by simp) (hl 13 (by decide))
          exact q
        · exact s73
        · exact s74)
      simp only [List.foldl, List.setIfInBounds_toArray, List.set_cons_zero, List.set_cons_succ, tab14, List.map_cons, List.map_nil, lookU, Nat.reduceEqDiff, if_true, if_false, reduceIte, Option.getD_some]
      have hbw2 := HT.out.n2 b2 rfl
      have hbw1 := HT.out.n1 b1 rfl
      have hVown : ∀ b, V.ownBlock = some b → B ≤ b := fun b e => (HR.out.lt b e).1
      have hm2 : MapB W b2 (T.who.map fun x => (x.1, u64v x.2)) := hbw2.2.keep (hgr.block b2 hbw2.2.lt (HR.out.not_map hbw2.2) (fun e => HT.out.ne b1 rfl (by rw [e])))
      have hgb2 : g ≠ b2 := blk_not_map HT.out.blk hbw2.2
      have hbelW : Below B w W := by
        refine below_two Hb.out ⟨hgr.os, hgr.tape, hgr.output, hgr.size, fun b hb => hgr.block b (Nat.lt_of_lt_of_le hb hBw) (fun e => ?_) (fun e => ?_)⟩
        · have := hVown b e; omega
        · injection e with e; have := hbw1.1; omega
      have c1 := hblk.cell 1
      simp at c1
      have Hho := Lib.hid ho
      have Hgr := Lib.hid hgr
      have Hmb := Lib.hid hmb
      have Hbl := Lib.hid hblk
      have HbW := Lib.hid hbelW
      have Hgb2 := Lib.hid hgb2
      have hB2 := hbw2.1
      clear hoff htab h14 hall hl s73 s74 ho hgr hmb hblk hbelW hVown hbw1 hbw2 hgb2
      go_wp2_with (at_mapUpdate; refine wpList_store_u rfl _ _ _ 27 rfl 22 22 Try.underlying27 Try.underlying22 b2 _ rfl hm2 v (u64v c) rfl rfl ?_; intro w2 hm2' hg2; have Hm2 := Lib.hid hm2'; have Hg2 := Lib.hid hg2; have hbl2 := Hbl.out.grown hg2 (by simpa using Hgb2.out); have k3 := hbl2.cell 3; have f3 := hbl2.frozen 3; simp at k3; clear hm2' hg2 hbl2)
      go_ret
      refine ⟨rfl, ⟨_, _, _, HT.out.note hN Hc.out.1 (by have := Hc.out.2.1; omega) (by have := Hc.out.2.2; omega) Hho.out (by rw [HV.out]; exact Hgr.out) Hmb.out Hm2.out Hg2.out Hbl.out⟩, ?_, Hoff.out.trans (OffT.noted HT.out (by rw [HV.out]; exact Hgr.out) Hg2.out)⟩
      have h2 : Below B w w2 := HbW.out.grown Hg2.out (Nat.le_trans hB HbW.out.size) fun k e => by injection e with e; omega
      exact h2.setCell (p := ⟨g, 3, none⟩) HT.out.base _
end Go.Proofs.Ytnngkjjabccglaa
