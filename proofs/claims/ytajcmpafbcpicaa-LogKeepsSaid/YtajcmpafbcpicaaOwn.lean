/- node.own: the same entries in memory of the call's own. Condition: they lie in memory, and are not longer than that bears. -/
import Derived.Test.YtajcmpafbcpicaaCopy
import Derived.Test.YtajcmpafbcpicaaNodeMem
import Derived.Deep.RegionHeld3
import Derived.Deep.RegionLaw
set_option linter.unusedVariables false
set_option linter.unusedSimpArgs false
namespace Go.Proofs.Ytajcmpafbcpicaa
open Go.RowKit

theorem infoE : (Try.prog.info? 44).map (fun i => (i.zero.map fun z => z.cells.size, i.size, i.bytes)) = some (some 7, 7, 104) := by kernel_rfl

def OwnPost (es : List En) (w : World) (e : Ending) (w' : World) : Prop :=
  ∃ p c, e = .returned (.slice p es.length c) ∧ EOwn w' w.heap.size (fun b => w.heap.size ≤ b) (.slice p es.length c) es ∧ Below w.heap.size w w'

set_option maxRecDepth 100000 in
set_option maxHeartbeats 4000000 in
theorem own_any (es : List En) (hf : ∀ e ∈ es, e.2.Fits) (hl : es.length * 104 ≤ 140737488355328) (w : World) (S : Nat → Prop) (p : Option Addr) (c : Nat) (h : EIn w S es p) :
    Calls Try.prog 108 #[.slice p es.length c] w (OwnPost es w) := by
  obtain ⟨i0, z0, hi, hz0, hz1, hz2, hz3⟩ := info_parts2 infoE
  have Hf := Lib.hid hf
  have H := Lib.hid h
  clear hf h
  go_enter Try.func108, Try.ntmps108
  go_wp2_with fail
  go_loopw [3, 5, 8] (fun vo vx vi wr => ∃ k : Nat, k ≤ es.length ∧ vi = .int .i64 k ∧ Hid (EOwn wr w.heap.size (fun b => w.heap.size ≤ b) vo (es.take k)) ∧ Below w.heap.size w wr) (fun vo vx vi _ => es.length - (intOf vi).toNat)
  case atStart => exact ⟨0, by omega, rfl, EOwn.nil _ _ _, Below.refl _ _⟩
  case round =>
    obtain ⟨k, hk, rfl, ho, hb⟩ := hrel
    by_cases hlt : k < es.length
    · obtain ⟨y, hy⟩ : ∃ y, es[k]? = some y := ⟨_, List.getElem?_eq_getElem hlt⟩
      obtain ⟨a, ql, dl, qo, do_, rfl, hSa, hcells, hvy⟩ := H.out k y hy
      have hcells' : Cells wr (a.add (k * 7)) (ecells y.1 y.2 ql dl qo do_) := hcells.keep (S := S) (fun b _ hl => hb.block b hl) (by rw [block_add]; exact hSa)
      have hvy' := hvy.under hb
      obtain ⟨e0, e1, e2, e3, e4, e5, e6⟩ := hcells'.at7
      obtain ⟨p', c', hv⟩ := ho.out.form
      rw [List.length_take_of_le hk] at hv
      subst hv
      have hown : ∀ g, (Value.slice p' k c').ownBlock = some g → g < wr.heap.size := fun g hg => by
        obtain ⟨cells, q1, _⟩ := ho.out
        exact (q1.lt g hg).2
      have Hown := Lib.hid hown
      clear hown
      have Hy := Lib.hid hy
      have Hvy := Lib.hid hvy'
      clear hcells hcells' hvy hvy' hy
      go_wp2_with fail
      have b0 := Blk.new wr 44 #[.string y.1, .int .i64 y.2.kind, .bool y.2.bool, .int .i64 y.2.num, .string y.2.text, .slice ql y.2.list.length dl, .slice qo y.2.obj.length do_]
      have hb0 := hb.alloc hb.size (.cells #[.string y.1, .int .i64 y.2.kind, .bool y.2.bool, .int .i64 y.2.num, .string y.2.text, .slice ql y.2.list.length dl, .slice qo y.2.obj.length do_] 44)
      have hu0 := (Below.refl wr.heap.size wr).alloc (Nat.le_refl _) (.cells #[.string y.1, .int .i64 y.2.kind, .bool y.2.bool, .int .i64 y.2.num, .string y.2.text, .slice ql y.2.list.length dl, .slice qo y.2.obj.length do_] 44)
      generalize wr.alloc (.cells #[.string y.1, .int .i64 y.2.kind, .bool y.2.bool, .int .i64 y.2.num, .string y.2.text, .slice ql y.2.list.length dl, .slice qo y.2.obj.length do_] 44) = W4 at b0 hb0 hu0 ⊢
      have Ho := Lib.hid (ho.out.under hu0)
      have Hvy4 := Lib.hid (Hvy.out.under hu0)
      have Hcall := Lib.hid (copy_any (Hf.out y (List.mem_of_getElem? Hy.out)))
      have B0 := Lib.hid b0
      have Hu0 := Lib.hid hu0
      have Hb0 := Lib.hid hb0
      have c0 := b0.cell 0
      have c1 := b0.cell 1
      have c2 := b0.cell 2
      have c3 := b0.cell 3
      have c4 := b0.cell 4
      have c5 := b0.cell 5
      have c6 := b0.cell 6
      simp at c0 c1 c2 c3 c4 c5 c6
      clear b0 hu0 hb0 ho e0 e1 e2 e3 e4 e5 e6 Hvy
      go_region_held3 (fun w' => w'.cell? ⟨wr.heap.size, 0, none⟩ = some (.string y.1) ∧ w'.cell? ⟨wr.heap.size, 1, none⟩ = some (.int .i64 y.2.kind) ∧ w'.cell? ⟨wr.heap.size, 2, none⟩ = some (.bool y.2.bool) ∧ w'.cell? ⟨wr.heap.size, 3, none⟩ = some (.int .i64 y.2.num) ∧ w'.cell? ⟨wr.heap.size, 4, none⟩ = some (.string y.2.text) ∧ w'.cell? ⟨wr.heap.size, 5, none⟩ = some (.slice ql y.2.list.length dl) ∧ w'.cell? ⟨wr.heap.size, 6, none⟩ = some (.slice qo y.2.obj.length do_))
        (first | go_keep | trace_state)
        (first
          | (go_at_call 147; refine (Hcall.out W4.drew _ _ _ _ _ Hvy4.out.drew).mono ?_; rintro e w1 ⟨pl', cl', po', co', rfl, hv1, hb1⟩; have hb1 := below_of_drew hb1; have Hv1 := Lib.hid hv1; have B1 := Lib.hid (B0.out.under hb1); have d0 := B1.out.cell 0; have d1 := B1.out.cell 1; have d2 := B1.out.cell 2; have d3 := B1.out.cell 3; have d4 := B1.out.cell 4; have d5 := B1.out.cell 5; have d6 := B1.out.cell 6; simp at d0 d1 d2 d3 d4 d5 d6; have Ho1 := Lib.hid (Ho.out.under hb1); clear hv1)
          | (obtain ⟨cells, hoc, hec⟩ := Ho1.out; rw [List.length_take_of_le hk] at hoc; have Hec := Lib.hid hec; clear hec; refine step_append_lies _ (by rfl) _ _ _ (by rfl) w.heap.size 44 i0 z0 7 104 Try.underlying26 hi hz0 hz1 hz2 hz3 (by omega) (.slice p' k c') k cells (by rfl) (hoc.alloc _) ⟨w1.heap.size, 0, none⟩ 1 1 [.string y.1, .int .i64 y.2.kind, .bool y.2.bool, .int .i64 y.2.num, .string y.2.text, .slice pl' y.2.list.length cl', .slice po' y.2.obj.length co'] (by rfl) (by rfl) (World.news_of_block (cs := #[.string y.1, .int .i64 y.2.kind, .bool y.2.bool, .int .i64 y.2.num, .string y.2.text, .slice pl' y.2.list.length cl', .slice po' y.2.obj.length co']) (t := 44) (fr := (0, 0)) (heap_alloc_new w1 _)) (by simp [Value.oneCell']) (by omega) (by simp only [maxLen]; omega) (by omega) (by have := hb1.size; have := Hb0.out.size; simp; omega) (w1.heap.size + 1) (by simp) ?_; intro gg cap w2 hown2 hgrow hat hlt2; have B2 := (B1.out.alloc (.cells #[.string y.1, .int .i64 y.2.kind, .bool y.2.bool, .int .i64 y.2.num, .string y.2.text, .slice pl' y.2.list.length cl', .slice po' y.2.obj.length co'] 44)).grown hgrow (fun e => by have := Hown.out _ e.symm; omega); have f0 := B2.cell 0; have f1 := B2.cell 1; have f2 := B2.cell 2; have f3 := B2.cell 3; have f4 := B2.cell 4; have f5 := B2.cell 5; have f6 := B2.cell 6; simp at f0 f1 f2 f3 f4 f5 f6; have Hown2 := Lib.hid hown2; have Hgrow := Lib.hid hgrow; clear B2 hown2 hgrow))
      go_wp2_with fail
      have hsz1 := hb1.size
      have hsz0 := Hb0.out.size
      have hszu := Hu0.out.size
      have hbel1 := below_then Hb0.out hsz0 hb1
      have halloc := hbel1.alloc (by omega) (.cells #[.string y.1, .int .i64 y.2.kind, .bool y.2.bool, .int .i64 y.2.num, .string y.2.text, .slice pl' y.2.list.length cl', .slice po' y.2.obj.length co'] 44)
      have hua := (Below.refl w1.heap.size w1).alloc (Nat.le_refl _) (.cells #[.string y.1, .int .i64 y.2.kind, .bool y.2.bool, .int .i64 y.2.num, .string y.2.text, .slice pl' y.2.list.length cl', .slice po' y.2.obj.length co'] 44)
      have hbase := (hoc.lt)
      have hB2 : Below w.heap.size w w2 := halloc.grown Hgrow.out (by simp; omega) (fun g hg => (hbase g hg).1)
      have hpush : EOwn w2 w.heap.size (fun b => w.heap.size ≤ b) (.slice (some ⟨gg, 0, none⟩) (k + 1) cap) (es.take (k + 1)) := by
        have htk : es.take (k + 1) = es.take k ++ [y] := by rw [List.take_add_one, Hy.out]; rfl
        have hlk : (es.take k).length = k := List.length_take_of_le hk
        rw [htk]
        refine EOwn.push (v := .slice p' k c') (es' := [y]) (cells := cells) (news := [.string y.1, .int .i64 y.2.kind, .bool y.2.bool, .int .i64 y.2.num, .string y.2.text, .slice pl' y.2.list.length cl', .slice po' y.2.obj.length co']) ?_ ?_ ?_ ?_ Hgrow.out ?_
        · rw [hlk]; exact hoc.alloc _
        · exact Hec.out.imp fun x pl po h => h.under hua
        · have hone : ECells (VIn w1 fun b => w.heap.size ≤ b ∧ (Value.slice p' k c').ownBlock ≠ some b) [y] (ecells y.1 y.2 pl' cl' po' co' ++ []) :=
            ECells.cons (k := y.1) (x := y.2) (Hv1.out.more fun b hb' _ => ⟨by have : W4.heap.size ≤ b := hb'; omega, fun e => by have := Hown.out _ e; have : W4.heap.size ≤ b := hb'; omega⟩) ECells.nil
          exact hone.imp fun x pl po h => h.under hua
        · rw [hlk]; exact Hown2.out
        · rcases hat with e | e
          · exact .inl e.symm
          · right; rw [e]; simp [Value.ownBlock]
      have Hpush := Lib.hid hpush
      clear hpush hua halloc hbel1 hbase hoc
      go_roundw
      case rel => exact ⟨k + 1, by omega, by go_num, Hpush, hB2⟩
      case measure => simp [intOf]; omega
    · obtain rfl : k = es.length := by omega
      have ho' := ho.out
      rw [List.take_length] at ho'
      obtain ⟨p', c', hv⟩ := ho'.form
      subst hv
      have Ho' := Lib.hid ho'
      clear ho ho'
      go_wp2_with fail
      go_ret
      exact ⟨p', c', rfl, Ho'.out, hb⟩
end Go.Proofs.Ytajcmpafbcpicaa
