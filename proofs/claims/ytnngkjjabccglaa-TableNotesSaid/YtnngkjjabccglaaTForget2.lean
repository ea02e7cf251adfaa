/- (*Table).Forget: its loop over the clients. Conditions: a table in memory whose maps are made. -/
import Derived.Test.YtnngkjjabccglaaTDel
set_option linter.unusedVariables false
set_option linter.unusedSimpArgs false
namespace Go.Proofs.Ytnngkjjabccglaa
open Go.RowKit

abbrev tab6 (g x3 b1 c v gb cp : Nat) (l : List Nt) : List (Nat × Nat × Value) := [(0, 30, .pointer (some ⟨g, 0, none⟩)), (1, 31, .pointer (some ⟨g, 0, none⟩)), (2, 32, .pointer (some ⟨g, 0, none⟩)), (3, 33, .map (some b1)), (4, 34, u64v c), (5, 35, .slice (some ⟨gb, 0, none⟩) l.length cp), (6, 36, .slice (some ⟨gb, 0, none⟩) l.length cp), (7, 37, u64v v), (8, 38, .int .i64 (cntLe v l : Nat)), (9, 39, .int .i64 ((cntLe v l : Int) - 1)), (10, 40, .int .i64 ((cntLe v l - 1 : Nat))), (11, 41, .slice (some ⟨gb, (cntLe v l - 1) * 2, none⟩) (l.length - (cntLe v l - 1)) (cp - (cntLe v l - 1)))]
/-- What holds of the world in region 6. -/
structure W6 (B b1 c v clk : Nat) (l : List Nt) (kv : List (Nat × Value)) (kb : List (Value × Nat)) (W0 : World) (p8 p12 p13 : Prop) (a : Act) (W : World) : Prop where
  q12 : p12 → p8
  q13 : p13 → p12
  bel : ¬ p13 → Below W0.heap.size W0 W
  s42 : p12 → ∃ u, Slot a 42 u
  app : p12 → ¬ p13 → ∃ v', Slot a 42 v' ∧ RowN W W0.heap.size v' (trimL v l)
  fin : p13 → ∃ v' W1 es', RowN W1 W0.heap.size v' (trimL v l) ∧ Below W0.heap.size W0 W1 ∧ W1.grownBy W (some b1) ∧ MapX W b1 es' clk ∧ es'.toList.map (fun e => (e.key, e.val)) = (putU c v' kv).map (fun x => (u64v x.1, x.2)) ∧ es'.toList.map (fun e => (e.key, e.born)) = kb
theorem W6.put {B b1 c v clk : Nat} {l : List Nt} {kv : List (Nat × Value)} {kb : List (Value × Nat)} {W0 : World} {p8 p12 p13 : Prop} {a : Act} {W : World} (h : W6 B b1 c v clk l kv kb W0 p8 p12 p13 a W) (d : Nat) (u : Value) (hd : d ≠ 42) : W6 B b1 c v clk l kv kb W0 p8 p12 p13 (a.put (some d) u) W :=
  ⟨h.q12, h.q13, h.bel, fun h1 => (h.s42 h1).imp fun b s => s.far _ hd, fun h1 h2 => (h.app h1 h2).imp fun b ⟨s, k⟩ => ⟨s.far _ hd, k⟩, h.fin⟩
theorem W6.cast {B b1 c v clk : Nat} {l : List Nt} {kv : List (Nat × Value)} {kb : List (Value × Nat)} {W0 : World} {p8 p12 p13 q8 q12 q13 : Prop} {a : Act} {W : World} (h : W6 B b1 c v clk l kv kb W0 p8 p12 p13 a W) (e1 : q8 = p8) (e2 : q12 = p12) (e3 : q13 = p13) : W6 B b1 c v clk l kv kb W0 q8 q12 q13 a W := by
  subst e1; subst e2; subst e3; exact h
def I6 (B g x3 b1 c v gb cp clk : Nat) (l : List Nt) (kv : List (Nat × Value)) (kb : List (Value × Nat)) (tc : Array Value) (a0 : Act) (W0 : World) (L : Nat → Prop) (a : Act) (W : World) : Prop :=
  Off [30, 31, 32, 33, 34, 35, 36, 37, 38, 39, 40, 41, 42] a0 a ∧ Tabl (tab6 g x3 b1 c v gb cp l) L a ∧ Blk W g 29 tc ∧ Blk W x3 22 #[u64v v] ∧ W6 B b1 c v clk l kv kb W0 (L 8) (L 12) (L 13) a W

theorem TabIn.setFloor {w : World} {B g N : Nat} {T : Tab} {m1 m2 : Option Nat} {row : Nat → Value} (h : TabIn w B g N T m1 m2 row) (v : Nat) (hv : v < 9223372036854775808) : TabIn (w.setCell ⟨g, 2, none⟩ (u64v v)) B g N { T with floor := v } m1 m2 row := by
  have hk : ∀ b, b ≠ g → (w.setCell ⟨g, 2, none⟩ (u64v v)).heap[b]? = w.heap[b]? := fun b hb => Below.heap_setCell w ⟨g, 2, none⟩ (u64v v) b hb
  refine ⟨by simpa using h.blk.set_ 2 (u64v v), h.base, fun b e => ⟨(h.n1 b e).1, (h.n1 b e).2.keep (hk b (Ne.symm (blk_not_map h.blk (h.n1 b e).2)))⟩, fun b e => ⟨(h.n2 b e).1, (h.n2 b e).2.keep (hk b (Ne.symm (blk_not_map h.blk (h.n2 b e).2)))⟩, h.z1, h.z2, h.ne,
    fun c l e => ⟨own_far (h.rows c l e).1 _ _ ((h.rows c l e).1.not_blk h.blk (by decide)), (h.rows c l e).2⟩, h.apart, h.nd, h.nd2, ⟨hv, h.nums.2⟩, h.numsL⟩
theorem own_lower {w : World} {base base' : Nat} {e : TypeId} {size n : Nat} {v : Value} {xs : List Value} (h : w.ownsRow base e size v n xs) (hb : base' ≤ base) : w.ownsRow base' e size v n xs := by
  refine ⟨h.1, ?_⟩
  rcases h.2 with hn | ⟨gd, cap, cur, e1, e2, rest⟩
  · exact .inl hn
  · exact .inr ⟨gd, cap, cur, e1, Nat.le_trans hb e2, rest⟩
/-- Another block turns that is no cells and no map. -/
theorem TabIn.iter {w w' : World} {B g N r : Nat} {T : Tab} {m1 m2 : Option Nat} {row : Nat → Value} (h : TabIn w B g N T m1 m2 row) (hk : ∀ k, k ≠ r → w'.heap[k]? = w.heap[k]?) {b clk : Nat} {seen : Array Nat} (hr : IterX w r b clk seen) : TabIn w' B g N T m1 m2 row := by
  have hm : ∀ b' kv, MapB w b' kv → b' ≠ r := fun b' kv hb e => by
    obtain ⟨es, c, h1, _⟩ := hb
    subst e
    unfold IterX at hr
    rw [h1] at hr
    cases hr
  have hg : g ≠ r := fun e => by
    have := h.blk
    unfold Blk at this
    unfold IterX at hr
    rw [e, hr] at this
    cases this
  refine ⟨(hk g hg).trans h.blk, h.base, fun b e => ⟨(h.n1 b e).1, (h.n1 b e).2.keep (hk b (hm b _ (h.n1 b e).2))⟩, fun b e => ⟨(h.n2 b e).1, (h.n2 b e).2.keep (hk b (hm b _ (h.n2 b e).2))⟩, h.z1, h.z2, h.ne, fun c l e => ?_, h.apart, h.nd, h.nd2, h.nums, h.numsL⟩
  obtain ⟨h1, h2⟩ := h.rows c l e
  refine ⟨⟨h1.1, ?_⟩, h2⟩
  rcases h1.2 with hn | ⟨gd, cap, cur, e1, e2, e3, rest⟩
  · exact .inl hn
  · refine .inr ⟨gd, cap, cur, e1, e2, (hk gd (fun e => ?_)).trans e3, rest⟩
    unfold IterX at hr
    rw [e, hr] at e3
    cases e3
theorem kb_keys {w : World} {b clk : Nat} {es : Array MapEntry} (h : MapX w b es clk) {T : List (Nat × List Nt)} {row : Nat → Value} (hnd : (T.map (·.1)).Nodup) (hkv : es.toList.map (fun e => (e.key, e.val)) = (T.map fun x => (x.1, row x.1)).map (fun x => (u64v x.1, x.2))) :
    ((kbOf es).map (·.1)).Nodup ∧ ((kbOf es).map (·.2)).Nodup := by
  constructor
  · have h1 : (kbOf es).map (·.1) = T.map fun x => u64v x.1 := by
      have := congrArg (List.map (fun x : Value × Value => x.1)) hkv
      simp only [List.map_map, Function.comp_def] at this
      simp only [kbOf, List.map_map, Function.comp_def]
      exact this
    rw [h1]
    have : T.map (fun x => u64v x.1) = (T.map (·.1)).map u64v := by simp
    rw [this]
    have hinj : ∀ l : List Nat, l.Nodup → (l.map u64v).Nodup := by
      intro l
      induction l with
      | nil => intro _; simp
      | cons a l ih =>
        intro hl
        simp only [List.nodup_cons] at hl
        simp only [List.map_cons, List.nodup_cons]
        refine ⟨fun hm => ?_, ih hl.2⟩
        obtain ⟨y, hy, e⟩ := List.mem_map.1 hm
        exact hl.1 (u64v_inj e ▸ hy)
    exact hinj _ hnd
  · have : (kbOf es).map (·.2) = es.toList.map (·.born) := by simp [kbOf]
    rw [this]
    exact h.nd
/-- The loop over the clients is under way. -/
structure FLoop (w : World) (B g N x3 b1 b2 clk r v : Nat) (T : Tab) (kb : List (Value × Nat)) (seen : Array Nat) (wr : World) : Prop where
  iter : IterX wr r b1 clk seen
  ne : r ≠ b1
  mapx : ∃ es, MapX wr b1 es clk ∧ kbOf es = kb
  tab : ∃ row, TabIn wr B g N { notes := notesS kb seen v T.notes, who := T.who, floor := v, newest := T.newest } (some b1) (some b2) row
  box : Blk wr x3 22 #[u64v v]
  bel : Below B w wr
  old : B ≤ r ∧ B ≤ wr.heap.size

def Tab.forget (T : Tab) (v : Nat) : Tab := { notes := T.notes.map fun x => (x.1, trimL v x.2), who := T.who.filter fun x => decide (v ≤ x.1), floor := v, newest := T.newest }
theorem notesS_all {kb : List (Value × Nat)} {seen : Array Nat} {v : Nat} {l : List (Nat × List Nt)} (h : ∀ x ∈ l, ∃ n, (u64v x.1, n) ∈ kb ∧ n ∈ seen.toList) : notesS kb seen v l = l.map fun x => (x.1, trimL v x.2) := by
  unfold notesS
  refine List.map_congr_left fun x hx => ?_
  rw [if_pos (h x hx)]
/-- Behind DeleteFunc. -/
theorem TabIn.dropWho {w w' : World} {B g N b1 b2 v : Nat} {T : Tab} {row : Nat → Value} (h : TabIn w B g N T (some b1) (some b2) row) (hg : w.grownBy w' (some b2)) (hm : MapB w' b2 ((T.who.filter fun x => decide (v ≤ x.1)).map fun x => (x.1, u64v x.2))) :
    TabIn w' B g N { T with who := T.who.filter fun x => decide (v ≤ x.1) } (some b1) (some b2) row := by
  have hb1 := h.n1 b1 rfl
  have hb2 := h.n2 b2 rfl
  have hne : b1 ≠ b2 := fun e => h.ne b1 rfl (by rw [e])
  have hgb : g ≠ b2 := blk_not_map h.blk hb2.2
  refine ⟨h.blk.grown hg (by simpa using hgb), h.base, fun b e => ?_, fun b e => ?_, (fun e => by cases e), (fun e => by cases e), h.ne, fun c l e => ?_, h.apart, h.nd, (List.Sublist.map _ List.filter_sublist).nodup h.nd2, h.nums, h.numsL⟩
  · injection e with e
    subst e
    exact ⟨hb1.1, hb1.2.keep (hg.block _ hb1.2.lt (by simpa using hne))⟩
  · injection e with e
    subst e
    exact ⟨hb2.1, hm⟩
  · obtain ⟨h1, h2⟩ := h.rows c l e
    exact ⟨h1.kept hg (.inr (h1.not_map hb2.2)), h2⟩
theorem tforget_nil (v : Nat) (w : World) : Calls Try.prog 13 #[.pointer none, u64v v] w fun e w' => e = .returned (.tuple #[]) ∧ Below w.heap.size w w' := by
  go_enter Try.func13, Try.ntmps13
  go_upto_region 1 with fail
  go_quiet (fail)
  go_wp2_with fail
  refine bodyPost_ret (results_none rfl _ _ _) rfl ?_
  exact ⟨rfl, bel_tr (bel_new w _) (below_drewN_self _ nq)⟩

set_option maxRecDepth 100000 in
set_option maxHeartbeats 4000000 in
theorem tforget_any {w : World} {B g N b1 b2 v : Nat} {T : Tab} {row : Nat → Value} (h : TabIn w B g N T (some b1) (some b2) row) (hB : B ≤ w.heap.size) (hv : T.floor < v) (hv2 : v < 9223372036854775808) :
    Calls Try.prog 13 #[.pointer (some ⟨g, 0, none⟩), u64v v] w fun e w' => e = .returned (.tuple #[]) ∧ (∃ row', TabIn w' B g N (T.forget v) (some b1) (some b2) row') ∧ Below B w w' := by
  have H := Lib.hid h
  have hbx := h.blk.alloc (.cells #[u64v v] 22)
  have c2 := hbx.cell 2
  have f2 := hbx.frozen 2
  simp at c2
  have d1 : decide (v ≤ T.floor) = false := decide_eq_false (by omega)
  have kx := (Blk.new w 22 #[u64v v]).cell 0
  simp at kx
  clear h hbx
  go_enter Try.func13, Try.ntmps13
  go_upto_region 1 with fail
  go_quiet (fail)
  go_upto_region 3 with fail
  have hT2 := ((H.out.under (bel_new w (.cells #[u64v v] 22))).under (below_drewN_self _ nq)).setFloor v hv2
  have hX2 : Blk (((w.alloc (.cells #[u64v v] 22)).drewN nq).setCell ⟨g, 2, none⟩ (u64v v)) w.heap.size 22 #[u64v v] := ((Blk.new w 22 #[u64v v]).drewN nq).far (by have := H.out.blk.lt; simp; omega) _
  have hB2 : Below B w (((w.alloc (.cells #[u64v v] 22)).drewN nq).setCell ⟨g, 2, none⟩ (u64v v)) := (below_drewN ((Below.refl B w).alloc hB _) nq).setCell (p := ⟨g, 2, none⟩) H.out.base _
  have hT2 := Lib.hid hT2
  have hX2 := Lib.hid hX2
  have hB2 := Lib.hid hB2
  generalize ((w.alloc (.cells #[u64v v] 22)).drewN nq).setCell ⟨g, 2, none⟩ (u64v v) = W2 at *
  clear c2 f2 kx d1
  have k0 := hT2.out.blk.cell 0
  simp at k0
  obtain ⟨es0, clk, hm0, hkv0⟩ := (hT2.out.n1 b1 rfl).2.x
  have hrg := run_range_x (P := Try.prog) hm0 Try.underlying26
  have Hm0 := Lib.hid hm0
  have Hkv0 := Lib.hid hkv0
  have hne : W2.heap.size ≠ b1 := by have := hm0.lt; omega
  have hstart : Hid (FLoop w B g N w.heap.size b1 b2 clk W2.heap.size v T (kbOf es0) #[] (W2.alloc (.mapIter (some b1) clk #[] clk))) := Lib.hid {
    iter := heap_alloc_new W2 _
    ne := hne
    mapx := ⟨es0, hm0.keep (Below.heap_alloc W2 _ b1 hm0.lt), rfl⟩
    tab := ⟨row, by
      rw [notesS_none]
      exact hT2.out.under (bel_new W2 _)⟩
    box := hX2.out.alloc _
    bel := hB2.out.alloc (Nat.le_trans hB hB2.out.size) _
    old := ⟨Nat.le_trans hB hB2.out.size, Nat.le_trans (Nat.le_trans hB hB2.out.size) (bel_new W2 _).size⟩ }
  clear hm0 hkv0 hne
  have hx3 : w.heap.size < W2.heap.size := hX2.out.lt
  generalize w.heap.size = x3 at *
  have hkk := kb_keys Hm0.out hT2.out.nd Hkv0.out
  have Hkk := Lib.hid hkk
  have Hnd := Lib.hid hT2.out.nd
  have HB := Lib.hid hB
  generalize kbOf es0 = kb at *
  generalize W2.heap.size = r at *
  clear hkk Hm0 Hkv0 hT2 hX2 hB2
  go_wp2_with fail
  go_loopg [4] (unseen kb #[]) (fun kx v4 wr => ∃ seen, Hid (FLoop w B g N x3 b1 b2 clk r v T kb seen wr) ∧ unseen kb seen ≤ kx)
  case atStart => exact ⟨#[], hstart, Nat.le_refl _⟩
  case round =>
    obtain ⟨seen, HF, hm⟩ := hrel
    clear hstart hrg k0
    obtain ⟨es, hmx, hkb⟩ := HF.out.mapx
    obtain ⟨row1, ht1⟩ := HF.out.tab
    have Hkb := Lib.hid hkb
    have Ht1 := Lib.hid ht1
    have Hmx := Lib.hid hmx
    clear hkb ht1
    go_wp2_with (at_next; refine wpList_next_x rfl _ rfl (r := r) rfl hmx HF.out.iter HF.out.ne ?_ ?_)
    · intro hall
      obtain ⟨row2, ht2⟩ := HF.out.tab
      have hallk : ∀ x ∈ T.notes, ∃ n, (u64v x.1, n) ∈ kb ∧ n ∈ seen.toList := fun x hx => by
        obtain ⟨es', clk', hmx', hkv⟩ := (ht2.n1 b1 rfl).2.x
        have hese : es' = es ∧ clk' = clk := by
          have h1 := hmx'.blk
          rw [Hmx.out.blk] at h1
          injection h1 with h1
          injection h1 with h1 h2
          exact ⟨h1.symm, h2.symm⟩
        obtain ⟨rfl, rfl⟩ := hese
        have hk1 : es'.toList.map (·.key) = T.notes.map fun x => u64v x.1 := by
          have := congrArg (List.map (fun x : Value × Value => x.1)) hkv
          simp only [List.map_map, Function.comp_def] at this
          rw [this]
          have h2 := congrArg (List.map u64v) (notesS_keys kb seen v T.notes)
          simpa only [List.map_map, Function.comp_def] using h2
        have hin : u64v x.1 ∈ es'.toList.map (·.key) := by rw [hk1]; exact List.mem_map_of_mem (f := fun x : Nat × List Nt => u64v x.1) hx
        obtain ⟨e, he, hek⟩ := List.mem_map.1 hin
        refine ⟨e.born, by rw [← Hkb.out, ← hek]; exact List.mem_map_of_mem (f := fun e : MapEntry => (e.key, e.born)) he, ?_⟩
        have := hall e (Array.mem_toList_iff.1 he)
        simpa using this
      rw [notesS_all hallk] at ht2
      have Ht2 := Lib.hid ht2
      have k1 := ht2.blk.cell 1
      simp at k1
      have Hdel := Lib.hid (tdel_any (v := v) (x3 := x3) ht2.nd2 (ht2.n2 b2 rfl).2 HF.out.box)
      clear hall hallk hmx ht2
      go_wp2_with (go_at_call 26; refine Hdel.out.mono ?_; rintro e w5 ⟨rfl, hg5, hm5⟩; have Hg5 := Lib.hid hg5; have Hm5 := Lib.hid hm5; clear hg5 hm5)
      go_end0
      refine ⟨rfl, ⟨_, Ht2.out.dropWho Hg5.out Hm5.out⟩, ?_⟩
      exact HF.out.bel.grown Hg5.out HF.out.old.2 fun k hk => by injection hk with hk; rw [← hk]; exact (Ht2.out.n2 b2 rfl).1
    · intro e w3 he hns hm3 hi3 hoth hgr hsz hen
      replace he := Array.mem_toList_iff.2 he
      replace hns : e.born ∉ seen.toList := fun h => hns (Array.mem_toList_iff.1 h)
      obtain ⟨c, hc⟩ := hm3.keys e he
      have ht3 := Ht1.out.iter hoth HF.out.iter
      have hmb := (ht3.n1 b1 rfl).2
      obtain ⟨es', clk', hmx', hkv⟩ := hmb.x
      have hese : es' = es ∧ clk' = clk := by
        have h1 := hmx'.blk
        rw [hm3.blk] at h1
        injection h1 with h1
        injection h1 with h1 h2
        exact ⟨h1.symm, h2.symm⟩
      obtain ⟨rfl, rfl⟩ := hese
      have hin : (e.key, e.val) ∈ es'.toList.map (fun e => (e.key, e.val)) := List.mem_map_of_mem he
      rw [hkv] at hin
      obtain ⟨x, hx, hxe⟩ := List.mem_map.1 hin
      obtain ⟨y, hy, rfl⟩ := List.mem_map.1 hx
      injection hxe with hx1 hx2
      rw [hc] at hx1
      have hyc := u64v_inj hx1
      subst hyc
      have hlk : lookU y.1 (notesS kb seen v T.notes) = some y.2 := mem_lookU ht3.nd hy
      obtain ⟨hr, h0, hlN, hrs⟩ := ht3.rows _ _ hlk
      obtain ⟨gb, cp, hv, hcp, _⟩ := hr.read h0
      rw [hc, ← hx2] at hen
      simp only at hen
      rw [hv] at hen hr
      have hmem : (u64v y.1, e.born) ∈ kb := by rw [← Hkb.out, ← hc]; exact List.mem_map_of_mem (f := fun e : MapEntry => (e.key, e.born)) he
      have hl0 := notesS_look Hnd.out Hkk.out.1 hmem hns hlk
      have hpush := notesS_push (seen := seen) (v := v) Hnd.out Hkk.out.1 Hkk.out.2 hmem hl0
      have hlt := unseen_push hmem hns
      have Hpush := Lib.hid hpush
      have Hlt := Lib.hid hlt
      have HR := Lib.hid hr
      have H0 := Lib.hid h0
      have Hrs := Lib.hid hrs
      have Hcl := Lib.hid (show cntLe v y.2 ≤ y.2.length ∧ 0 < y.2.length from ⟨cntLe_le _ _, List.length_pos_iff.2 h0⟩)
      have hNN : y.2.length ≤ 1000000 := by have := ht3.nums.2.2; omega
      have Ht3 := Lib.hid ht3
      have Hm3 := Lib.hid hm3
      have Hi3 := Lib.hid hi3
      have Hkv3 := Lib.hid hkv
      have hbel3 : Below B w w3 := HF.out.bel.grown hgr HF.out.old.2 fun k hk => by injection hk with hk; have := HF.out.old.1; omega
      have Hbel3 := Lib.hid hbel3
      have hbox3 : Blk w3 x3 22 #[u64v v] := (hoth x3 (fun e => by
        have := HF.out.iter
        unfold IterX at this
        have h2 := HF.out.box
        unfold Blk at h2
        rw [e, this] at h2
        cases h2)).trans HF.out.box
      have Hbox3 := Lib.hid hbox3
      have Hold := Lib.hid (show B ≤ r ∧ B ≤ w3.heap.size ∧ r ≠ b1 ∧ r < w3.heap.size from ⟨HF.out.old.1, by rw [hsz]; exact HF.out.old.2, HF.out.ne, hi3.lt⟩)
      have Hkb3 : Hid (kbOf es' = kb) := Hkb
      have Hlk := Lib.hid hlk
      clear hpush hlt hr h0 hrs ht3 hm3 hi3 hkv hbel3 hbox3 hoth hgr hsz hmb hmx' hin hx hy hx1 hx2 hlk hmem hl0 Ht1 HF Hmx hmx he hns hc hv Hkb
      generalize y.2 = l at *
      generalize y.1 = c at *
      generalize e.born = bn at *
      generalize e.key = ek at *
      generalize e.val = ev at *
      go_wp2_with fail
      refine wp_region_from (fun a0 W0 => I6 B g x3 b1 c v gb cp clk' l ((notesS kb seen v T.notes).map fun x => (x.1, row1 x.1)) kb #[.map (some b1), .map (some b2), u64v v, u64v T.newest] a0 W0) (by kernel_rfl) (by kernel_rfl) ?start ?steps ?done
      case start =>
        exact ⟨Off.refl _ _, Tabl.none _ _, Ht3.out.blk, Hbox3.out, ⟨fun h => h.elim, fun h => h.elim, fun _ => (Below.refl _ _).drew, fun h => h.elim, fun h => h.elim, fun h => h.elim⟩⟩
      case steps =>
        rintro J rfl
        refine ⟨?s0, ?s1, ?s2, ?s3, ?s4, ?s5, ?s6, ?s7, ?s8, ?s9, ?s10, ?s11, ?s12, ?s13, trivial⟩
        case s0 =>
          rintro L A W ⟨hoff, htab, hblk, hbox, h6⟩ hn hw K hK
          have hsz := Lib.hid (show A.tmps.size = 49 from hoff.size)
          have p0 : A.tmps[0]? = some (.pointer (some ⟨g, 0, none⟩)) := hoff.same 0 (by decide)
          go_simp
          exact hK (A.put (some 30) _) W ⟨hoff.put 30 (by decide) _, htab.put (by have := hsz.out; omega) (by rintro j e u hm rfl; simpa using hm) (by rintro j e u hm rfl; simp at hm; exact hm.1), hblk, hbox, ((h6.put 30 _ (by decide)).cast (orF (i := 0) (j := 8) rfl) (orF (i := 0) (j := 12) rfl) (orF (i := 0) (j := 13) rfl))⟩
        case s1 =>
          rintro L A W ⟨hoff, htab, hblk, hbox, h6⟩ hn hw K hK
          have hsz := Lib.hid (show A.tmps.size = 49 from hoff.size)
          have s0 : A.tmps[30]? = some (.pointer (some ⟨g, 0, none⟩)) := htab 0 30 _ (by simp) (hw 0 (by simp [waitsFor, Region.binds]))
          go_simp
          exact hK (A.put (some 31) _) W ⟨hoff.put 31 (by decide) _, htab.put (by have := hsz.out; omega) (by rintro j e u hm rfl; simpa using hm) (by rintro j e u hm rfl; simp at hm; exact hm.1), hblk, hbox, ((h6.put 31 _ (by decide)).cast (orF (i := 1) (j := 8) rfl) (orF (i := 1) (j := 12) rfl) (orF (i := 1) (j := 13) rfl))⟩
        case s2 =>
          rintro L A W ⟨hoff, htab, hblk, hbox, h6⟩ hn hw K hK
          have hsz := Lib.hid (show A.tmps.size = 49 from hoff.size)
          have s1 : A.tmps[31]? = some (.pointer (some ⟨g, 0, none⟩)) := htab 1 31 _ (by simp) (hw 1 (by simp [waitsFor, Region.binds]))
          go_simp
          exact hK (A.put (some 32) _) W ⟨hoff.put 32 (by decide) _, htab.put (by have := hsz.out; omega) (by rintro j e u hm rfl; simpa using hm) (by rintro j e u hm rfl; simp at hm; exact hm.1), hblk, hbox, ((h6.put 32 _ (by decide)).cast (orF (i := 2) (j := 8) rfl) (orF (i := 2) (j := 12) rfl) (orF (i := 2) (j := 13) rfl))⟩
        case s3 =>
          rintro L A W ⟨hoff, htab, hblk, hbox, h6⟩ hn hw K hK
          have hsz := Lib.hid (show A.tmps.size = 49 from hoff.size)
          have s2 : A.tmps[32]? = some (.pointer (some ⟨g, 0, none⟩)) := htab 2 32 _ (by simp) (hw 2 (by simp [waitsFor, Region.binds]))
          have cc : W.cell? ⟨g, 0, none⟩ = some (.map (some b1)) := hblk.cell 0
          go_simp
          exact hK (A.put (some 33) _) W ⟨hoff.put 33 (by decide) _, htab.put (by have := hsz.out; omega) (by rintro j e u hm rfl; simpa using hm) (by rintro j e u hm rfl; simp at hm; exact hm.1), hblk, hbox, ((h6.put 33 _ (by decide)).cast (orF (i := 3) (j := 8) rfl) (orF (i := 3) (j := 12) rfl) (orF (i := 3) (j := 13) rfl))⟩
        case s4 =>
          rintro L A W ⟨hoff, htab, hblk, hbox, h6⟩ hn hw K hK
          have hsz := Lib.hid (show A.tmps.size = 49 from hoff.size)
          have p4 : A.tmps[4]? = some (u64v c) := hoff.same 4 (by decide)
          go_simp
          exact hK (A.put (some 34) _) W ⟨hoff.put 34 (by decide) _, htab.put (by have := hsz.out; omega) (by rintro j e u hm rfl; simpa using hm) (by rintro j e u hm rfl; simp at hm; exact hm.1), hblk, hbox, ((h6.put 34 _ (by decide)).cast (orF (i := 4) (j := 8) rfl) (orF (i := 4) (j := 12) rfl) (orF (i := 4) (j := 13) rfl))⟩
        case s5 =>
          rintro L A W ⟨hoff, htab, hblk, hbox, h6⟩ hn hw K hK
          have hsz := Lib.hid (show A.tmps.size = 49 from hoff.size)
          have p5 : A.tmps[5]? = some (.slice (some ⟨gb, 0, none⟩) l.length cp) := hoff.same 5 (by decide)
          go_simp
          exact hK (A.put (some 35) _) W ⟨hoff.put 35 (by decide) _, htab.put (by have := hsz.out; omega) (by rintro j e u hm rfl; simpa using hm) (by rintro j e u hm rfl; simp at hm; exact hm.1), hblk, hbox, ((h6.put 35 _ (by decide)).cast (orF (i := 5) (j := 8) rfl) (orF (i := 5) (j := 12) rfl) (orF (i := 5) (j := 13) rfl))⟩
        case s6 =>
          rintro L A W ⟨hoff, htab, hblk, hbox, h6⟩ hn hw K hK
          have hsz := Lib.hid (show A.tmps.size = 49 from hoff.size)
          have p5 : A.tmps[5]? = some (.slice (some ⟨gb, 0, none⟩) l.length cp) := hoff.same 5 (by decide)
          go_simp
          exact hK (A.put (some 36) _) W ⟨hoff.put 36 (by decide) _, htab.put (by have := hsz.out; omega) (by rintro j e u hm rfl; simpa using hm) (by rintro j e u hm rfl; simp at hm; exact hm.1), hblk, hbox, ((h6.put 36 _ (by decide)).cast (orF (i := 6) (j := 8) rfl) (orF (i := 6) (j := 12) rfl) (orF (i := 6) (j := 13) rfl))⟩
        case s7 =>
          rintro L A W ⟨hoff, htab, hblk, hbox, h6⟩ hn hw K hK
          have hsz := Lib.hid (show A.tmps.size = 49 from hoff.size)
          have p3 : A.tmps[3]? = some (.pointer (some ⟨x3, 0, none⟩)) := hoff.same 3 (by decide)
          have cc : W.cell? ⟨x3, 0, none⟩ = some (u64v v) := hbox.cell 0
          go_simp
          exact hK (A.put (some 37) _) W ⟨hoff.put 37 (by decide) _, htab.put (by have := hsz.out; omega) (by rintro j e u hm rfl; simpa using hm) (by rintro j e u hm rfl; simp at hm; exact hm.1), hblk, hbox, ((h6.put 37 _ (by decide)).cast (orF (i := 7) (j := 8) rfl) (orF (i := 7) (j := 12) rfl) (orF (i := 7) (j := 13) rfl))⟩
        case s8 =>
          rintro L A W ⟨hoff, htab, hblk, hbox, h6⟩ hn hw K hK
          have hsz := Lib.hid (show A.tmps.size = 49 from hoff.size)
          have n12 : ¬ L 12 := fun h => hn (h6.q12 h)
          have n13 : ¬ L 13 := fun h => n12 (h6.q13 h)
          have s6 : A.tmps[36]? = some (.slice (some ⟨gb, 0, none⟩) l.length cp) := htab 6 36 _ (by simp) (hw 6 (by simp [waitsFor, Region.binds]))
          have s7 : A.tmps[37]? = some (u64v v) := htab 7 37 _ (by simp) (hw 7 (by simp [waitsFor, Region.binds]))
          have hb := h6.bel n13
          go_simp
          go_at_call 25
          refine (behind_cnt (own_under HR.out hb) H0.out (by omega) Hrs.out v).mono ?_
          rintro e W2 ⟨rfl, hb2⟩
          refine hK (A.put (some 38) _) W2 ⟨hoff.put 38 (by decide) _, htab.put (by have := hsz.out; omega) (by rintro j e u hm rfl; simpa using hm) (by rintro j e u hm rfl; simp at hm; exact hm.1), hblk.under hb2, hbox.under hb2, ?_⟩
          refine W6.cast (q8 := 8 = 8 ∨ L 8) (p8 := 8 = 8 ∨ L 8) ?_ rfl (orF (i := 8) (j := 12) rfl) (orF (i := 8) (j := 13) rfl)
          exact ⟨fun h => absurd h n12, h6.q13, fun _ => bel_tr hb hb2, fun h => absurd h n12, fun h => absurd h n12, fun h => absurd h n13⟩
        case s9 =>
          rintro L A W ⟨hoff, htab, hblk, hbox, h6⟩ hn hw K hK
          have hsz := Lib.hid (show A.tmps.size = 49 from hoff.size)
          have s8 : A.tmps[38]? = some (.int .i64 (cntLe v l : Nat)) := htab 8 38 _ (by simp) (hw 8 (by simp [waitsFor, Region.binds]))
          have hcl := Hcl.out
          have hw9 : IntKind.i64.wrap ((cntLe v l : Int) - 1) = (cntLe v l : Int) - 1 := IntWalk.i64_in _ (by omega)
          go_simp
          exact hK (A.put (some 39) _) W ⟨hoff.put 39 (by decide) _, htab.put (by have := hsz.out; omega) (by rintro j e u hm rfl; simpa using hm) (by rintro j e u hm rfl; simp at hm; exact hm.1), hblk, hbox, ((h6.put 39 _ (by decide)).cast (orF (i := 9) (j := 8) rfl) (orF (i := 9) (j := 12) rfl) (orF (i := 9) (j := 13) rfl))⟩
        case s10 =>
          rintro L A W ⟨hoff, htab, hblk, hbox, h6⟩ hn hw K hK
          have hsz := Lib.hid (show A.tmps.size = 49 from hoff.size)
          have s9 : A.tmps[39]? = some (.int .i64 ((cntLe v l : Int) - 1)) := htab 9 39 _ (by simp) (hw 9 (by simp [waitsFor, Region.binds]))
          have hmx : max ((cntLe v l : Int) - 1) 0 = ((cntLe v l - 1 : Nat) : Int) := by omega
          have hmx' : (if ((cntLe v l : Int) - 1) < 0 then (0 : Int) else (cntLe v l : Int) - 1) = ((cntLe v l - 1 : Nat) : Int) := by split <;> omega
          have hmx2 : (if (0 : Int) < ((cntLe v l : Int) - 1) then (cntLe v l : Int) - 1 else 0) = ((cntLe v l - 1 : Nat) : Int) := by split <;> omega
          go_simp
          exact hK (A.put (some 40) _) W ⟨hoff.put 40 (by decide) _, htab.put (by have := hsz.out; omega) (by rintro j e u hm rfl; simpa using hm) (by rintro j e u hm rfl; simp at hm; exact hm.1), hblk, hbox, ((h6.put 40 _ (by decide)).cast (orF (i := 10) (j := 8) rfl) (orF (i := 10) (j := 12) rfl) (orF (i := 10) (j := 13) rfl))⟩
        case s11 =>
          rintro L A W ⟨hoff, htab, hblk, hbox, h6⟩ hn hw K hK
          have hsz := Lib.hid (show A.tmps.size = 49 from hoff.size)
          have s5 : A.tmps[35]? = some (.slice (some ⟨gb, 0, none⟩) l.length cp) := htab 5 35 _ (by simp) (hw 5 (by simp [waitsFor, Region.binds]))
          have s10 : A.tmps[40]? = some (.int .i64 ((cntLe v l - 1 : Nat))) := htab 10 40 _ (by simp) (hw 10 (by simp [waitsFor, Region.binds]))
          have k1 : cntLe v l - 1 < cp := by have := Hcl.out; omega
          have k2 : cntLe v l - 1 ≤ l.length := by have := Hcl.out; omega
          have k3 : ¬ cntLe v l - 1 = cp := by omega
          have k4 : ((cntLe v l - 1 : Nat) : Int) ≤ (l.length : Int) := by omega
          have k5 : (0 : Int) ≤ ((cntLe v l - 1 : Nat) : Int) := by omega
          have k6 : (cp = cntLe v l - 1) = False := eq_false (by omega)
          go_simp
          exact hK (A.put (some 41) _) W ⟨hoff.put 41 (by decide) _, htab.put (by have := hsz.out; omega) (by rintro j e u hm rfl; simpa using hm) (by rintro j e u hm rfl; simp at hm; exact hm.1), hblk, hbox, ((h6.put 41 _ (by decide)).cast (orF (i := 11) (j := 8) rfl) (orF (i := 11) (j := 12) rfl) (orF (i := 11) (j := 13) rfl))⟩
        case s12 =>
          rintro L A W ⟨hoff, htab, hblk, hbox, h6⟩ hn hw K hK
          have hsz := Lib.hid (show A.tmps.size = 49 from hoff.size)
          have n13 : ¬ L 13 := fun h => hn (h6.q13 h)
          have l8 : L 8 := hw 8 (by simp [waitsFor, Region.binds])
          have s11 : A.tmps[41]? = some (.slice (some ⟨gb, (cntLe v l - 1) * 2, none⟩) (l.length - (cntLe v l - 1)) (cp - (cntLe v l - 1))) := htab 11 41 _ (by simp) (hw 11 (by simp [waitsFor, Region.binds]))
          have hb := h6.bel n13
          have hcc := clone_trim (cntLe v l - 1) (own_under HR.out hb) (by have := Hcl.out; omega) hNN (cp - (cntLe v l - 1))
          rw [List.length_drop] at hcc
          have Hcc := Lib.hid hcc
          clear hcc
          go_simp
          go_at_call 24
          refine Hcc.out.mono ?_
          rintro e W2 ⟨v', rfl, ho, hb2⟩
          refine hK (A.put (some 42) v') W2 ⟨hoff.put 42 (by decide) _, htab.far (by intro j e u hm; simp at hm; omega), hblk.under hb2, hbox.under hb2, ?_⟩
          refine W6.cast (q12 := 12 = 12 ∨ L 12) (p12 := 12 = 12 ∨ L 12) ?_ (orF (i := 12) (j := 8) rfl) rfl (orF (i := 12) (j := 13) rfl)
          exact ⟨fun _ => l8, fun h => absurd h n13, fun _ => bel_tr hb hb2, fun _ => ⟨v', Slot.put (a := A) (d := 42) _ (by have := hsz.out; omega)⟩, fun _ _ => ⟨v', Slot.put (a := A) (d := 42) _ (by have := hsz.out; omega), own_lower (show RowN W2 W.heap.size v' (trimL v l) from ho) hb.size⟩, fun h => absurd h n13⟩
        case s13 =>
          rintro L A W ⟨hoff, htab, hblk, hbox, h6⟩ hn hw K hK
          have hsz := Lib.hid (show A.tmps.size = 49 from hoff.size)
          have s3 : Slot A 33 (.map (some b1)) := htab 3 33 _ (by simp) (hw 3 (by simp [waitsFor, Region.binds]))
          have s4 : Slot A 34 (u64v c) := htab 4 34 _ (by simp) (hw 4 (by simp [waitsFor, Region.binds]))
          have l12 : L 12 := hw 12 (by simp [waitsFor, Region.binds])
          obtain ⟨v', s42, ho⟩ := h6.app l12 hn
          have hb := h6.bel hn
          have hmW : MapX W b1 es' clk' := Hm3.out.keep (hb.block b1 Hm3.out.lt)
          obtain ⟨W2, es2, hrun, hm2, hkv2, hkb2, hg2⟩ := hmW.store (P := Try.prog) Hkv3.out Try.underlying26 Try.underlying22 c (by rw [lookU_row row1 c, Hlk.out]; rfl) v'
          have hne : g ≠ b1 := blk_not_map hblk (hmW.b Hkv3.out)
          have hne2 : x3 ≠ b1 := blk_not_map hbox (hmW.b Hkv3.out)
          have e3 := slot_eval s3
          have e4 := slot_eval s4
          have e5 := slot_eval s42
          rw [if_pos (by simp [Region.wanted])]
          unfold Oper.wp
          simp only [execOp, e3, e4, e5, hrun, Sem.run_bind, Result.andThen, Sem.run]
          refine hK A W2 ⟨hoff, htab.stay (by intro j e u hm; simp at hm; omega), hblk.grown hg2 (by simpa using hne), hbox.grown hg2 (by simpa using hne2), ?_⟩
          refine W6.cast (q13 := 13 = 13 ∨ L 13) (p13 := 13 = 13 ∨ L 13) ?_ (orF (i := 13) (j := 8) rfl) (orF (i := 13) (j := 12) rfl) rfl
          exact ⟨h6.q12, fun _ => l12, fun h => absurd (Or.inl rfl) h, h6.s42, fun _ h => absurd (Or.inl rfl) h, fun _ => ⟨v', W, es2, ho, hb, hg2, hm2, hkv2, hkb2.trans Hkb3.out⟩⟩
      case done =>
        rintro L A W ⟨hoff, htab, hblk, hbox, h6⟩ hall
        have hl : ∀ k, k < 14 → L k := fun k hk => hall k hk
        obtain ⟨v', W1, es2, ho, hb1, hg2, hm2, hkv2, hkb2⟩ := h6.fin (hl 13 (by decide))
        obtain ⟨u42, s42⟩ := h6.s42 (hl 12 (by decide))
        obtain rfl := hoff.act (fun t => if t = 42 then u42 else (lookU t ((tab6 g x3 b1 c v gb cp l).map fun x => (x.2.1, x.2.2))).getD undef) (fun d hd => by
          simp only [List.mem_cons, List.not_mem_nil, or_false] at hd
          rcases hd with rfl | rfl | rfl | rfl | rfl | rfl | rfl | rfl | rfl | rfl | rfl | rfl | rfl
          · have q : Slot A 30 (.pointer (some ⟨g, 0, none⟩)) := htab 0 30 (.pointer (some ⟨g, 0, none⟩)) (by simp) (hl 0 (by decide))
            exact q
          · have q : Slot A 31 (.pointer (some ⟨g, 0, none⟩)) := htab 1 31 (.pointer (some ⟨g, 0, none⟩)) (by simp) (hl 1 (by decide))
            exact q
          · have q : Slot A 32 (.pointer (some ⟨g, 0, none⟩)) := htab 2 32 (.pointer (some ⟨g, 0, none⟩)) (by simp) (hl 2 (by decide))
            exact q
          · have q : Slot A 33 (.map (some b1)) := htab 3 33 (.map (some b1)) (by simp) (hl 3 (by decide))
            exact q
          · have q : Slot A 34 (u64v c) := htab 4 34 (u64v c) (by simp) (hl 4 (by decide))
            exact q
          · have q : Slot A 35 (.slice (some ⟨gb, 0, none⟩) l.length cp) := htab 5 35 (.slice (some ⟨gb, 0, none⟩) l.length cp) (by simp) (hl 5 (by decide))
            exact q
          · have q : Slot A 36 (.slice (some ⟨gb, 0, none⟩) l.length cp) := htab 6 36 (.slice (some ⟨gb, 0, none⟩) l.length cp) (by simp) (hl 6 (by decide))
            exact q
          · have q : Slot A 37 (u64v v) := htab 7 37 (u64v v) (by simp) (hl 7 (by decide))
            exact q
          · have q : Slot A 38 (.int .i64 (cntLe v l : Nat)) := htab 8 38 (.int .i64 (cntLe v l : Nat)) (by simp) (hl 8 (by decide))
            exact q
          · have q : Slot A 39 (.int .i64 ((cntLe v l : Int) - 1)) := htab 9 39 (.int .i64 ((cntLe v l : Int) - 1)) (by simp) (hl 9 (by decide))
            exact q
          · have q : Slot A 40 (.int .i64 ((cntLe v l - 1 : Nat))) := htab 10 40 (.int .i64 ((cntLe v l - 1 : Nat))) (by simp) (hl 10 (by decide))
            exact q
          · have q : Slot A 41 (.slice (some ⟨gb, (cntLe v l - 1) * 2, none⟩) (l.length - (cntLe v l - 1)) (cp - (cntLe v l - 1))) := htab 11 41 (.slice (some ⟨gb, (cntLe v l - 1) * 2, none⟩) (l.length - (cntLe v l - 1)) (cp - (cntLe v l - 1))) (by simp) (hl 11 (by decide))
            exact q
          · exact s42)
        simp only [List.foldl, List.setIfInBounds_toArray, List.set_cons_zero, List.set_cons_succ, tab6, List.map_cons, List.map_nil, lookU, Nat.reduceEqDiff, if_true, if_false, reduceIte, Option.getD_some]
        have hFL : FLoop w B g N x3 b1 b2 clk' r v T kb (seen.push bn) W := {
          iter := (Hi3.out.keep (hb1.block r Hi3.out.lt)).keep (hg2.block r (Nat.lt_of_lt_of_le Hi3.out.lt hb1.size) (by simpa using Hold.out.2.2.1))
          ne := Hold.out.2.2.1
          mapx := ⟨es2, hm2, hkb2⟩
          tab := ⟨_, by
            rw [Hpush.out]
            exact Ht3.out.trim Hlk.out (trimL_ne H0.out) (by have := trimL_len (v := v) (l := l); have := (Ht3.out.rows c l Hlk.out).2.2.1; omega) (trimL_rise Hrs.out) (fun x hx => trimL_mem hx) hb1 ho Hold.out.2.1 hg2 (hm2.b hkv2)⟩
          box := hbox
          bel := by
            have h1 : Below B w W1 := below_two Hbel3.out ⟨hb1.os, hb1.tape, hb1.output, hb1.size, fun b hb => hb1.block b (Nat.lt_of_lt_of_le hb Hold.out.2.1)⟩
            exact h1.grown hg2 (Nat.le_trans Hold.out.2.1 hb1.size) fun k hk => by injection hk with hk; rw [← hk]; exact (Ht3.out.n1 b1 rfl).1
          old := ⟨Hold.out.1, Nat.le_trans Hold.out.2.1 (Nat.le_trans hb1.size hg2.size)⟩ }
        have HFL := Lib.hid hFL
        clear hFL hoff htab hblk hbox h6 hall hl ho hb1 hg2 hm2 hkv2 hkb2 s42
        go_wp2_with fail
        go_roundg (unseen kb (seen.push bn))
        case measure => have := Hlt.out; omega
        case rel => exact ⟨seen.push bn, HFL, Nat.le_refl _⟩
end Go.Proofs.Ytnngkjjabccglaa
