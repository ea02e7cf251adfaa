/- The walk of commonplacelaw19.trees: five trees, of which four have a node of their own. No conditions. -/
import Derived.Test.YtajcmpafbcpicaaPutTop
import Derived.Test.YtajcmpafbcpicaaKnown
set_option linter.unusedVariables false
set_option linter.unusedSimpArgs false
namespace Go.Proofs.Ytajcmpafbcpicaa
open Go.RowKit

abbrev pa (a : Nat) : Value := .pointer (some ⟨a, 0, none⟩)
def TreesPost (w : World) (e : Ending) (w' : World) : Prop :=
  ∃ g a b c d, e = .returned (.slice (some ⟨g, 0, none⟩) 5 5) ∧ Blk w' g 61 #[.pointer none, pa a, pa b, pa c, pa d] ∧ w.heap.size ≤ g ∧ w.heap.size ≤ a ∧ a < b ∧ b < c ∧ c < d ∧ Below w.heap.size w w'

theorem one_leaf {n : Nd} (hok : n.ok) {e : En} (hf : n.sh.flat = [e]) : n.kids = [] ∧ n.es = [e] := by
  obtain ⟨a, es, ks⟩ := n
  simp only [Nd.kids, Nd.es]
  cases ks with
  | nil => exact ⟨rfl, by simpa [Nd.sh, shs, Sh.flat] using hf⟩
  | cons k l =>
    exfalso
    have hg := Good.of_ok hok (by simp [Nd.kids])
    have hfl := Nd.flat_kids (n := .mk a es (k :: l)) (by simp [Nd.kids])
    rw [hfl] at hf
    have h2 := ((Sh.may_inner es (shs (k :: l)) (by simp [shs])).1 (by simpa [Nd.ok, Nd.sh] using hok)).2.1
    cases l with
    | nil => simp [shs] at h2
    | cons k2 l =>
      have h1 := (hg.all k (by simp [Nd.kids])).2.1
      have h3 := (hg.all k2 (by simp [Nd.kids])).2.1
      simp only [Nd.kids, shs, flats] at hf
      have := congrArg List.length hf
      have p1 := List.length_pos_iff.2 h1
      have p2 := List.length_pos_iff.2 h3
      simp only [List.length_append, List.length_singleton] at this
      omega
theorem one_fits {n : Nd} {k : Key} {z : Int} (hk : n.kids = []) (he : n.es = [(k, numV z)]) (hs : k.size ≤ 140737488355328) : n.Fits := by
  obtain ⟨a, es, ks⟩ := n
  simp only [Nd.kids, Nd.es] at hk he
  subst hk
  subst he
  refine .mk (by simp) (by simp [shs]) (fun e h => ?_) (fun k h => by simp [shs] at h)
  simp at h
  subst h
  exact ⟨numV_fits z, hs⟩

set_option maxRecDepth 100000 in
set_option maxHeartbeats 4000000 in
theorem trees_any (w : World) : Calls Try.prog 57 #[] w (TreesPost w) := by
  go_enter Try.func57, Try.ntmps57
  go_upto_region 3 with fail
  have Hb0 := Lib.hid (bel_al (bel_new w (.cells #[.pointer none] 61)) (.cells #[.int .i64 3, .bool false, .int .i64 1, .string { data := #[] }, .slice none 0 0, .slice none 0 0] 42))
  have Z0 := Lib.hid ((Blk.new w 61 #[.pointer none]).alloc (.cells #[.int .i64 3, .bool false, .int .i64 1, .string { data := #[] }, .slice none 0 0, .slice none 0 0] 42))
  have O0 := Lib.hid (Blk.new (w.alloc (.cells #[.pointer none] 61)) 42 #[.int .i64 3, .bool false, .int .i64 1, .string { data := #[] }, .slice none 0 0, .slice none 0 0])
  simp only [World.size_alloc] at O0
  go_upto_region 4 with (go_at_call 52; refine (tput_nil { data := #[97] } (numV 1) (numV_fits 1) _ (fun _ => True) none none 0 0 (numV_in _ _ _ _ _)).mono ?_; rintro e w1 ⟨n1, rfl, hf1, hok1, ha1, hn1, hb1⟩)
  have hl1 := one_leaf hok1 (by rw [hf1]; rfl)
  have Hn1 := Lib.hid ((hn1.more (S' := fun b => b < w1.heap.size) fun b _ h => h).under (bel_new w1 (.cells #[nptr n1] 61)))
  have Hok1 := Lib.hid hok1
  have Hl1 := Lib.hid hl1
  have Hf1 := Lib.hid hf1
  have Ha1 := Lib.hid ha1
  have hlt1 := hn1.lt
  have Hbb1 := Lib.hid (bel_al (bel_tr Hb0.out hb1) (.cells #[nptr n1] 61))
  have Z1 := Lib.hid ((Z0.out.under hb1).alloc (.cells #[nptr n1] 61))
  have O1 := Lib.hid ((O0.out.under hb1).alloc (.cells #[nptr n1] 61))
  have A1 := Lib.hid (Blk.new w1 61 #[nptr n1])
  have q0 := O1.out.cell 0
  have q1 := O1.out.cell 1
  have q2 := O1.out.cell 2
  have q3 := O1.out.cell 3
  have q4 := O1.out.cell 4
  have q5 := O1.out.cell 5
  have a0 := A1.out.cell 0
  simp at a0 q0 q1 q2 q3 q4 q5
  clear hn1 hok1 hl1 hf1 ha1 hb1
  go_upto_region 5 with (go_at_call 52; refine (tput_leaf n1 Hl1.out.1 Hok1.out (one_fits Hl1.out.1 (Hl1.out.2) (by decide)) { data := #[98] } (numV 1) (numV_fits 1) _ _ (fun _ => True) Hn1.out none none 0 0 (numV_in _ _ _ _ _) (fun b h => by simp; omega)).mono ?_; rintro e w2 ⟨n2, rfl, hf2, hok2, ha2, hn2, hb2⟩)
  have hlt2 := hn2.lt
  have hbb4 := bel_al (bel_tr Hbb1.out hb2) (.cells #[nptr n2] 61)
  have Z4 := (Z1.out.under hb2).alloc (.cells #[nptr n2] 61)
  have O4 := (O1.out.under hb2).alloc (.cells #[nptr n2] 61)
  have A4 := (A1.out.under hb2).alloc (.cells #[nptr n2] 61)
  have B4 := Blk.new w2 61 #[nptr n2]
  have hs4 : (w2.alloc (.cells #[nptr n2] 61)).heap.size = w2.heap.size + 1 := World.size_alloc _ _
  have ha1 := Ha1.out
  simp only [World.size_alloc] at ha1 ha2
  have hx : w.heap.size ≤ n1.addr ∧ n1.addr < n2.addr ∧ n2.addr < (w2.alloc (.cells #[nptr n2] 61)).heap.size := ⟨by omega, by omega, by omega⟩
  clear hf2 hok2 hn2 hb2 Z1 O1 A1 Hbb1 Ha1 Hf1 Hl1 Hok1 Hn1 Z0 O0 Hb0 hlt1 hlt2 ha1 ha2 q0 q1 q2 q3 q4 q5 a0 hs4
  generalize he4 : w2.alloc (.cells #[nptr n2] 61) = w4 at Z4 O4 A4 B4 hbb4 hx
  clear he4
  have z0 := Z4.cell 0
  have a0 : w4.cell? ⟨w1.heap.size, 0, none⟩ = some (.pointer (some ⟨n1.addr, 0, none⟩)) := A4.cell 0
  have b0 : w4.cell? ⟨w2.heap.size, 0, none⟩ = some (.pointer (some ⟨n2.addr, 0, none⟩)) := B4.cell 0
  have q0 := O4.cell 0
  have q1 := O4.cell 1
  have q2 := O4.cell 2
  have q3 := O4.cell 3
  have q4 := O4.cell 4
  have q5 := O4.cell 5
  simp at z0 q0 q1 q2 q3 q4 q5
  have Hbb4 := Lib.hid hbb4
  have Hx := Lib.hid hx
  clear Z4 O4 A4 B4 hbb4 hx
  generalize w1.heap.size = g1 at *
  generalize w2.heap.size = g2 at *
  generalize n1.addr = x1 at *
  generalize n2.addr = x2 at *
  go_region_held3 (fun w' => w'.cell? ⟨w.heap.size, 0, none⟩ = some (.pointer none) ∧ w'.cell? ⟨g1, 0, none⟩ = some (.pointer (some ⟨x1, 0, none⟩)) ∧ w'.cell? ⟨g2, 0, none⟩ = some (.pointer (some ⟨x2, 0, none⟩)) ∧ w'.cell? ⟨w.heap.size + 1, 0, none⟩ = some (.int .i64 3) ∧ w'.cell? ⟨w.heap.size + 1, 1, none⟩ = some (.bool false) ∧ w'.cell? ⟨w.heap.size + 1, 2, none⟩ = some (.int .i64 1) ∧ w'.cell? ⟨w.heap.size + 1, 3, none⟩ = some (.string { data := #[] }) ∧ w'.cell? ⟨w.heap.size + 1, 4, none⟩ = some (.slice none 0 0) ∧ w'.cell? ⟨w.heap.size + 1, 5, none⟩ = some (.slice none 0 0))
    (first | go_keep | trace_state)
    (first
      | (have hb5' := Hb5.out; go_at_call 52; refine (tput_nil { data := #[99] } (numV 1) (numV_fits 1) w5 (fun _ => True) none none 0 0 (numV_in _ _ _ _ _)).mono ?_; rintro e w6 ⟨n6, rfl, _, _, ha6, hn6, hb6⟩; have Ha6 := Lib.hid (And.intro ha6 hn6.lt); have Hb6 := Lib.hid (below_then hb5' hb5'.size hb6); have hk6 := fun (p : Addr) (v : Value) (h : w4.cell? p = some v) => cell_below (below_then hb5' hb5'.size hb6) h; clear hb6 hn6 ha6 hb5')
      | (go_at_call 52; refine (tput_nil { data := #[99] } (numV 1) (numV_fits 1) w4.drew (fun _ => True) none none 0 0 (numV_in _ _ _ _ _)).mono ?_; rintro e w5 ⟨n5, rfl, _, _, ha5, hn5, hb5⟩; have Ha5 := Lib.hid (And.intro ha5 hn5.lt); have Hb5 := Lib.hid (below_of_drew hb5); have hk5 := fun (p : Addr) (v : Value) (h : w4.cell? p = some v) => cell_below (below_of_drew hb5) h; clear hb5 hn5 ha5))
  go_wp2_with fail
  go_ret
  have hx := Hx.out
  have h5 : w4.heap.size ≤ n5.addr ∧ n5.addr < w5.heap.size := Ha5.out
  have h6 := Ha6.out
  have hs := Hb6.out.size
  have hs4 := Hbb4.out.size
  exact ⟨w6.heap.size, x1, x2, n5.addr, n6.addr, rfl, Blk.new w6 _ _, by omega, by omega, by omega, by omega, by omega, bel_al (bel_tr Hbb4.out Hb6.out) _⟩
end Go.Proofs.Ytajcmpafbcpicaa
