/- The reference's table: Note. Conditions: a list in memory; nothing is forgotten. -/
import Derived.Test.YtnngkjjabccglaaTRefT2
import Derived.Deep.AppendLies
set_option linter.unusedVariables false
set_option linter.unusedSimpArgs false
namespace Go.Proofs.Ytnngkjjabccglaa
open Go.RowKit

/-- Nothing is appended to nothing. -/
theorem run_append_zero {P : Program} {w : World} {t ty e : TypeId} {i : TypeInfo} (ht : P.underlying t = some (.slice e)) (hi : P.info? e = some i) (p : Option Addr) (c : Nat) :
    (Builtin.append_ #[t, t] ty #[.slice none 0 0, .slice p 0 c]).run P w = .ok (.slice none 0 0) w := by
  cases p with
  | none => simp [Builtin.append_, run_underlying ht, sizeOf, typeInfo, hi, Builtin.lenOf, Builtin.firstCells]
  | some a => simp [Builtin.append_, run_underlying ht, sizeOf, typeInfo, hi, Builtin.lenOf, Builtin.firstCells, loadCells, loadCellsFrom]

theorem wpList_append_zero {P : Program} {ops : Array Oper} {rest : List Oper} {o : Oper} {a : Act} {Q : Exit → Act → World → Prop} {w : World} {t e : TypeId} {i : TypeInfo} (ht : P.underlying t = some (.slice e)) (hi : P.info? e = some i)
    (hgd : o.guard = none) (s x : Operand) (ho : o.op = .call { callee := .builtin .append, args := #[s, x], argTypes := #[t, t] }) {p : Option Addr} {c : Nat} (hs : a.eval s = .slice none 0 0) (hx : a.eval x = .slice p 0 c)
    (h : wpList P ops Q rest (a.put o.dst (.slice none 0 0)) w) : wpList P ops Q (o :: rest) a w := by
  refine wpList_plain hgd fun K hK => ?_
  have hrun := run_append_zero (P := P) (w := w) (ty := o.type) ht hi p c
  unfold Oper.wp execOp
  simp only [ho, resolve, invoke, builtin, Sem.run_bind, Sem.run_pure, Result.andThen_ok, List.map_toArray, List.map_cons, List.map_nil, hs, hx, hrun]
  exact hK _ _ h

def rcode (L : List Rn) (c v i : Nat) : Nat :=
  if mayN c = false then 2 else if mayN v = false ∨ mayN i = false then 7 else if v ≤ newR L ∨ i ≤ lastR c L then 15 else if lastR c L + 1 < i then 14 else 0
theorem lastR_mem {c : Nat} {L : List Rn} : lastR c L = 0 ∨ ∃ x ∈ L, lastR c L = x.2.2 := by
  unfold lastR
  cases hl : (L.filter fun x => decide (x.1 = c)).getLast? with
  | none => exact .inl rfl
  | some x => exact .inr ⟨x, (List.mem_filter.1 (List.mem_of_getLast? hl)).1, rfl⟩
theorem RefIn.last_lt {w : World} {B h : Nat} {L : List Rn} {val : Value} (r : RefIn w B h L val) (c : Nat) : lastR c L < 9223372036854775808 := by
  rcases lastR_mem (c := c) (L := L) with e | ⟨x, hx, e⟩
  · rw [e]; decide
  · rw [e]; exact (r.nums x hx).2.2
set_option maxRecDepth 100000 in
theorem rnote_no {w : World} {B h : Nat} {L : List Rn} {val : Value} (r : RefIn w B h L val) (c v i : Nat) (hc : rcode L c v i ≠ 0) :
    Calls Try.prog 7 #[tp h, u64v c, u64v v, u64v i] w fun e w' => e = .returned (.int .i64 (rcode L c v i : Nat)) ∧ Below w.heap.size w w' := by
  have HN := Lib.hid (rnewest_any r)
  have HR := Lib.hid r
  have hl := r.last_lt c
  clear r
  have Hm1 := Lib.hid (rmay_any c w)
  have Hm2 := Lib.hid (rmay_any v w)
  have Hm3 := Lib.hid (rmay_any i w)
  cases h1 : mayN c with
  | false =>
    have e : rcode L c v i = 2 := by simp [rcode, h1]
    rw [e]
    rw [h1] at Hm1
    clear e hc h1
    go_enter Try.func7, Try.ntmps7
    go_wp2_with (go_at_call 19; refine Hm1.out.mono ?_; rintro e w1 ⟨rfl, rfl⟩)
    go_ret
    exact ⟨rfl, Below.refl _ _⟩
  | true =>
    rw [h1] at Hm1
    cases h2 : mayN v with
    | false =>
      have e : rcode L c v i = 7 := by simp [rcode, h1, h2]
      rw [e]
      rw [h2] at Hm2
      clear e hc h1 h2
      go_enter Try.func7, Try.ntmps7
      go_upto_region 3 with (go_at_call 19; refine Hm1.out.mono ?_; rintro e w1 ⟨rfl, rfl⟩)
      go_wp2_with (go_at_call 19; refine Hm2.out.mono ?_; rintro e w1 ⟨rfl, rfl⟩)
      go_ret
      exact ⟨rfl, Below.refl _ _⟩
    | true =>
      rw [h2] at Hm2
      cases h3 : mayN i with
      | false =>
        have e : rcode L c v i = 7 := by simp [rcode, h1, h2, h3]
        rw [e]
        rw [h3] at Hm3
        clear e hc h1 h2 h3
        go_enter Try.func7, Try.ntmps7
        go_upto_region 3 with (go_at_call 19; refine Hm1.out.mono ?_; rintro e w1 ⟨rfl, rfl⟩)
        go_wp2_with fail
        refine Hm2.out.mono ?_
        rintro e w1 ⟨rfl, rfl⟩
        go_wp2_with fail
        refine Hm3.out.mono ?_
        rintro e w1 ⟨rfl, rfl⟩
        go_wp2_with fail
        go_ret
        exact ⟨rfl, Below.refl _ _⟩
      | true =>
        rw [h3] at Hm3
        by_cases h4 : v ≤ newR L
        · have e : rcode L c v i = 15 := by simp [rcode, h1, h2, h3, h4]
          rw [e]
          have d1 : decide (v ≤ newR L) = true := decide_eq_true h4
          clear e hc h1 h2 h3 h4
          go_enter Try.func7, Try.ntmps7
          go_upto_region 3 with (go_at_call 19; refine Hm1.out.mono ?_; rintro e w1 ⟨rfl, rfl⟩)
          go_wp2_with fail
          refine Hm2.out.mono ?_
          rintro e w1 ⟨rfl, rfl⟩
          go_wp2_with fail
          refine Hm3.out.mono ?_
          rintro e w1 ⟨rfl, rfl⟩
          go_wp2_with (first
      | (go_at_call 20; refine HN.out.mono ?_; rintro e w1 ⟨rfl, q, rfl⟩)
      | (go_at_call 21; refine (rlast_any (HR.out.drew _) c).mono ?_; rintro e w1 ⟨rfl, rfl⟩))
          go_ret
          exact ⟨rfl, below_drewN_self _ _⟩
        · have d1 : decide (v ≤ newR L) = false := decide_eq_false h4
          by_cases h5 : i ≤ lastR c L
          · have e : rcode L c v i = 15 := by simp [rcode, h1, h2, h3, h5]
            rw [e]
            have d2 : decide (i ≤ lastR c L) = true := decide_eq_true h5
            clear e hc h1 h2 h3 h4 h5
            go_enter Try.func7, Try.ntmps7
            go_upto_region 3 with (go_at_call 19; refine Hm1.out.mono ?_; rintro e w1 ⟨rfl, rfl⟩)
            go_wp2_with fail
            refine Hm2.out.mono ?_
            rintro e w1 ⟨rfl, rfl⟩
            go_wp2_with fail
            refine Hm3.out.mono ?_
            rintro e w1 ⟨rfl, rfl⟩
            go_wp2_with (first
      | (go_at_call 20; refine HN.out.mono ?_; rintro e w1 ⟨rfl, q, rfl⟩)
      | (go_at_call 21; refine (rlast_any (HR.out.drew _) c).mono ?_; rintro e w1 ⟨rfl, rfl⟩))
            go_ret
            exact ⟨rfl, below_drewN_self _ _⟩
          · have d2 : decide (i ≤ lastR c L) = false := decide_eq_false h5
            have h6 : lastR c L + 1 < i := by
              refine Classical.byContradiction fun h6 => hc ?_
              simp [rcode, h1, h2, h3, h4, h5, h6]
            have e : rcode L c v i = 14 := by simp [rcode, h1, h2, h3, h4, h5, h6]
            rw [e]
            have h7 : (lastR c L : Int) + 1 < (i : Int) := by omega
            have hi : (i : Int) ≤ 4611686018427387903 := by simp [mayN] at h3; omega
            clear e hc h1 h2 h3 h4 h5 h6
            go_enter Try.func7, Try.ntmps7
            go_upto_region 3 with (go_at_call 19; refine Hm1.out.mono ?_; rintro e w1 ⟨rfl, rfl⟩)
            go_wp2_with fail
            refine Hm2.out.mono ?_
            rintro e w1 ⟨rfl, rfl⟩
            go_wp2_with fail
            refine Hm3.out.mono ?_
            rintro e w1 ⟨rfl, rfl⟩
            go_wp2_with (first
      | (go_at_call 20; refine HN.out.mono ?_; rintro e w1 ⟨rfl, q, rfl⟩)
      | (go_at_call 21; refine (rlast_any (HR.out.drew _) c).mono ?_; rintro e w1 ⟨rfl, rfl⟩))
            go_ret
            exact ⟨rfl, below_drewN_self _ _⟩

theorem RefIn.put {w w6 : World} {B h c v i : Nat} {L : List Rn} {val v2 : Value} (r : RefIn w B h L val) (hb : Below w.heap.size w w6) (ho : w6.ownsRow w.heap.size 24 3 v2 (L.length + 1) (rcells L ++ [u64v c, u64v v, u64v i])) (hL : L.length < 1000) (hn : c < 9223372036854775808 ∧ v < 9223372036854775808 ∧ i < 9223372036854775808) :
    RefIn (w6.setCell ⟨h, 0, none⟩ v2) B h (L ++ [(c, v, i)]) v2 := by
  have hlt := r.blk.lt
  have hne : v2.ownBlock ≠ some h := fun e => by have := (ho.lt h e).1; omega
  refine ⟨by simpa using (r.blk.under hb).set_ 0 v2, ?_, r.base, by simp; omega, fun x hx => ?_⟩
  · have ho' : w6.ownsRow w.heap.size 24 3 v2 (L ++ [(c, v, i)]).length (rcells (L ++ [(c, v, i)])) := by
      rw [rcells_append]; simpa [rcells] using ho
    exact own_lower (own_far ho' ⟨h, 0, none⟩ v2 hne) (by have := r.base; omega)
  · rcases List.mem_append.1 hx with hx | hx
    · exact r.nums x hx
    · simp at hx; subst hx; exact hn
theorem infoRn : (Try.prog.info? 24).map (fun i => (i.zero.map fun z => z.cells.size, i.size, i.bytes)) = some (some 3, 3, 24) := by kernel_rfl
def ROkPost (B h c v i : Nat) (L : List Rn) (w : World) (e : Ending) (w' : World) : Prop :=
  e = .returned (.int .i64 0) ∧ ∃ w6 v2, w' = w6.setCell ⟨h, 0, none⟩ v2 ∧ Below w.heap.size w w6 ∧ RefIn w' B h (L ++ [(c, v, i)]) v2
set_option maxRecDepth 100000 in
set_option maxHeartbeats 1000000 in
theorem rnote_ok {w : World} {B h : Nat} {L : List Rn} {val : Value} (r : RefIn w B h L val) (hL : L.length < 1000) (c v i : Nat) (hc : rcode L c v i = 0) :
    Calls Try.prog 7 #[tp h, u64v c, u64v v, u64v i] w (ROkPost B h c v i L w) := by
  have HN := Lib.hid (rnewest_any r)
  have HR := Lib.hid r
  have hl := r.last_lt c
  obtain ⟨i0, z0, hi, hz0, hz1, hz2, hz3⟩ := info_parts2 infoRn
  have Hm1 := Lib.hid (rmay_any c w)
  have Hm2 := Lib.hid (rmay_any v w)
  have Hm3 := Lib.hid (rmay_any i w)
  obtain ⟨hc1, hc2, hc3, hc4, hc5, hc6⟩ : mayN c = true ∧ mayN v = true ∧ mayN i = true ∧ newR L < v ∧ lastR c L < i ∧ i ≤ lastR c L + 1 := by
    unfold rcode at hc
    cases h1 : mayN c <;> cases h2 : mayN v <;> cases h3 : mayN i <;> simp [h1, h2, h3] at hc
    by_cases h4 : v ≤ newR L ∨ i ≤ lastR c L
    · rw [if_pos h4] at hc; cases hc
    · rw [if_neg h4] at hc
      by_cases h5 : lastR c L + 1 < i
      · rw [if_pos h5] at hc; cases hc
      · exact ⟨rfl, rfl, rfl, by omega, by omega, by omega⟩
  have Hn : Hid (c < 9223372036854775808 ∧ v < 9223372036854775808 ∧ i < 9223372036854775808) := Lib.hid (by simp [mayN] at hc1 hc2 hc3; omega)
  have HL := Lib.hid hL
  have hi9 : (i : Int) ≤ 4611686018427387903 := by simp [mayN] at hc3; omega
  rw [hc1] at Hm1
  rw [hc2] at Hm2
  rw [hc3] at Hm3
  have d1 : decide (v ≤ newR L) = false := decide_eq_false (by omega)
  have d2 : decide (i ≤ lastR c L) = false := decide_eq_false (by omega)
  have d3 : decide ((lastR c L : Int) + 1 < (i : Int)) = false := decide_eq_false (by omega)
  clear hc hc1 hc2 hc3 hc4 hc5 hc6
  have hrow := Lib.hid r.row
  have hlen := r.len
  have c0 := r.blk.cell 0
  simp at c0
  have hr2 := r.row.2
  clear r
  rcases hr2 with ⟨rfl, hl0⟩ | ⟨g, cp, cur, rfl, hg, hh, hcp, _, _, _⟩
  · have hL0 := List.eq_nil_of_length_eq_zero hl0
    subst hL0
    go_enter Try.func7, Try.ntmps7
    go_upto_region 3 with (go_at_call 19; refine Hm1.out.mono ?_; rintro e w1 ⟨rfl, rfl⟩)
    go_wp2_with fail
    refine Hm2.out.mono ?_
    rintro e w1 ⟨rfl, rfl⟩
    go_wp2_with fail
    refine Hm3.out.mono ?_
    rintro e w1 ⟨rfl, rfl⟩
    go_upto_region 9 with (first
      | (go_at_call 20; refine HN.out.mono ?_; rintro e w1 ⟨rfl, q, rfl⟩)
      | (go_at_call 21; refine (rlast_any (HR.out.drew _) c).mono ?_; rintro e w1 ⟨rfl, rfl⟩))
    go_wp2_with (first | (at_builtin; refine wpList_append_zero Try.underlying31 hi rfl _ _ rfl rfl rfl ?_; have HR4 : Hid (Below w.heap.size w (w.drewN q)) := Lib.hid (below_drewN_self w q)) | (at_builtin; refine wpList_append_own_at _ rfl _ _ 31 rfl w.heap.size 24 i0 z0 3 24 Try.underlying31 hi hz0 hz1 hz2 hz3 (by decide) (.slice none 0 0) 0 [] rfl (World.ownsRow_nil _ _ _ _) ⟨(w.drewN q).heap.size, 0, none⟩ 1 1 [u64v c, u64v v, u64v i] rfl rfl (World.news_of_block (cs := #[u64v c, u64v v, u64v i]) (t := 24) (fr := (0, 0)) (heap_alloc_new (w.drewN q) _)) (by simp [Value.oneCell']) (by simp only [maxLen]; omega) (by omega) (by have := HR4.out.size; simp only [World.size_alloc]; omega) ?_; intro v2 w6 hown2 hgr2 _ _; obtain ⟨A2, cp2, rfl⟩ := own_slice hown2; have Hown2 : Hid (w6.ownsRow w.heap.size 24 3 _ (0 + 1) ([] ++ [u64v c, u64v v, u64v i])) := Lib.hid hown2; have HB6 : Hid (Below w.heap.size w w6) := Lib.hid ((HR4.out.alloc HR4.out.size (.cells #[u64v c, u64v v, u64v i] 24)).grown hgr2 (by have := HR4.out.size; simp only [World.size_alloc]; omega) (fun k e => by cases e)); have hb6 := HR.out.blk.under HB6.out; have c6 := hb6.cell 0; have f6 := hb6.frozen 0; simp at c6; clear hown2 hgr2 hb6))
    go_ret
    exact ⟨rfl, w6, _, rfl, HB6.out, HR.out.put HB6.out Hown2.out HL.out Hn.out⟩
  · go_enter Try.func7, Try.ntmps7
    go_upto_region 3 with (go_at_call 19; refine Hm1.out.mono ?_; rintro e w1 ⟨rfl, rfl⟩)
    go_wp2_with fail
    refine Hm2.out.mono ?_
    rintro e w1 ⟨rfl, rfl⟩
    go_wp2_with fail
    refine Hm3.out.mono ?_
    rintro e w1 ⟨rfl, rfl⟩
    go_upto_region 9 with (first
      | (go_at_call 20; refine HN.out.mono ?_; rintro e w1 ⟨rfl, q, rfl⟩)
      | (go_at_call 21; refine (rlast_any (HR.out.drew _) c).mono ?_; rintro e w1 ⟨rfl, rfl⟩))
    go_wp2_with (first | (at_builtin; refine wpList_append_own_at _ rfl _ _ 31 rfl w.heap.size 24 i0 z0 3 24 Try.underlying31 hi hz0 hz1 hz2 hz3 (by decide) (.slice none 0 0) 0 [] rfl (World.ownsRow_nil _ _ _ _) ⟨g, 0, none⟩ L.length cp (rcells L) rfl (rcells_length L) (fun j u hu => World.ownsRow.cells hrow.out (g := g) rfl j u hu) (rcells_one L) (by simp only [maxLen]; omega) (by omega) (Nat.le_refl _) ?_; intro v1 w4 hown1 hgr1 _ _; have Hown1 : Hid (w4.ownsRow w.heap.size 24 3 v1 L.length (rcells L)) := Lib.hid (by simpa using hown1); have HR4 : Hid (Below w.heap.size w w4) := Lib.hid ((below_drewN_self w q).grown hgr1 (Nat.le_refl _) (fun k e => by cases e)); clear hown1 hgr1) | (at_builtin; refine wpList_append_own_at _ rfl _ _ 31 rfl w.heap.size 24 i0 z0 3 24 Try.underlying31 hi hz0 hz1 hz2 hz3 (by decide) v1 L.length (rcells L) rfl (Hown1.out.alloc _) ⟨w4.heap.size, 0, none⟩ 1 1 [u64v c, u64v v, u64v i] rfl rfl (World.news_of_block (cs := #[u64v c, u64v v, u64v i]) (t := 24) (fr := (0, 0)) (heap_alloc_new w4 _)) (by simp [Value.oneCell']) (by simp only [maxLen]; omega) (by omega) (by have := HR4.out.size; simp only [World.size_alloc]; omega) ?_; intro v2 w6 hown2 hgr2 _ _; obtain ⟨A2, cp2, rfl⟩ := own_slice hown2; have Hown2 : Hid (w6.ownsRow w.heap.size 24 3 _ (L.length + 1) ((rcells L) ++ [u64v c, u64v v, u64v i])) := Lib.hid hown2; have HB6 : Hid (Below w.heap.size w w6) := Lib.hid ((HR4.out.alloc HR4.out.size (.cells #[u64v c, u64v v, u64v i] 24)).grown hgr2 (by have := HR4.out.size; simp only [World.size_alloc]; omega) (fun k e => (Hown1.out.lt k e).1)); have hb6 := HR.out.blk.under HB6.out; have c6 := hb6.cell 0; have f6 := hb6.frozen 0; simp at c6; clear hown2 hgr2 hb6))
    go_ret
    exact ⟨rfl, w6, _, rfl, HB6.out, HR.out.put HB6.out Hown2.out HL.out Hn.out⟩
end Go.Proofs.Ytnngkjjabccglaa
