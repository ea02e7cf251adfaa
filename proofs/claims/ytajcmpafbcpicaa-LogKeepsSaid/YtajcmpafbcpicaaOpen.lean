/- How an argument is opened: a shape (and a value, entries) that reads, lies in memory, and is as small as its weights say. No conditions. -/
import Derived.Test.YtajcmpafbcpicaaNodeMem
import Derived.Test.YtajcmpafbcpicaaRows
import Derived.ChangeArms
import Derived.SizedLaws
import Derived.ProofKit
set_option linter.unusedVariables false
set_option linter.unusedSimpArgs false
namespace Go.Proofs.Ytajcmpafbcpicaa
open Go.RowKit

section
variable {H : Type} {enc : TypeId × Value → H} {w : World} {base : Nat} {sp : Nat → Bool} {held : Bool}
/-- Light: none of its lists and texts is too long. -/
def Light (t : TypeId) (d : DataW H) : Prop := ∀ n ∈ d.weights Try.prog t, n ≤ reachBytes

theorem weights_all_mem {P : Program} {e : TypeId} : ∀ {ds : List (DataW H)} {d : DataW H}, d ∈ ds → ∀ n ∈ d.weights P e, n ∈ DataW.weightsAll P e ds
  | [], d, h, n, hn => by cases h
  | x :: l, d, h, n, hn => by
    simp only [DataW.weightsAll, List.mem_append]
    rcases List.mem_cons.1 h with rfl | h
    · exact .inl hn
    · exact .inr (weights_all_mem h n hn)
theorem Light.slice {t e : TypeId} {es sp : List (DataW H)} (hu : Try.prog.underlying t = some (.slice e)) (h : Light t (.slice es sp)) :
    (es.length + sp.length) * Try.prog.bytesOf e ≤ reachBytes ∧ ∀ d ∈ es, Light e d := by
  refine ⟨h _ (by simp [DataW.weights, hu]), fun d hd n hn => h n ?_⟩
  simp only [DataW.weights, hu, List.mem_cons, List.mem_append]
  exact .inr (.inl (weights_all_mem hd n hn))
theorem Light.agg {t : TypeId} {fs : Array Field} {ds : List (DataW H)} (hu : Try.prog.underlying t = some (.struct fs)) (h : Light t (.agg ds)) {i : Nat} {f : Field} {d : DataW H} (hf : fs[i]? = some f) (hd : ds[i]? = some d) : Light f.type d := by
  intro n hn
  refine h n ?_
  simp only [DataW.weights, hu]
  exact DataW.weights_mem_each (j := i) (t := f.type) (by simp [hf]) hd n hn
theorem Light.text {t : TypeId} {l : List UInt8} (h : Light (H := H) t (.lit (.string l))) : l.length ≤ reachBytes := h _ (by simp [DataW.weights])

theorem mk_list {α : Type} {p : Nat → α → Prop} : ∀ {n : Nat}, (∀ i, i < n → ∃ v, p i v) → ∃ l : List α, l.length = n ∧ ∀ i v, l[i]? = some v → p i v
  | 0, _ => ⟨[], rfl, fun i v h => by simp at h⟩
  | n + 1, h => by
    obtain ⟨l, hl, hp⟩ := mk_list (n := n) fun i hi => h i (by omega)
    obtain ⟨v, hv⟩ := h n (by omega)
    refine ⟨l ++ [v], by simp [hl], fun i u hi => ?_⟩
    by_cases hin : i < n
    · rw [List.getElem?_append_left (by omega)] at hi; exact hp i u hi
    · rw [List.getElem?_append_right (by omega)] at hi
      have : i = n := by have := (List.getElem?_eq_some_iff.1 hi).1; simp at this; omega
      subst this
      simp [hl] at hi
      subst hi; exact hv

theorem open_elems {t e : TypeId} {fuel : Nat} {cs : List Value} {x : DataW H × List MemPlace} (ht : Try.prog.underlying t = some (.slice e)) (h : DataW.trod enc Try.prog w base sp held fuel t cs = some x) (hx : Light t x.1) :
    ∃ (p : Option Addr) (len cap n : Nat), n ≤ fuel ∧ cs = [.slice p len cap] ∧ len ≤ cap ∧ len * Try.prog.bytesOf e ≤ reachBytes ∧
      ∀ i, i < len → ∃ a cs' y, p = some a ∧ w.cells? base (a.add (i * Try.prog.cellsOf e)) (Try.prog.cellsOf e) = some cs' ∧ DataW.trod enc Try.prog w base sp held n e cs' = some y ∧ Light e y.1 := by
  rcases DataW.trod_slice ht h with ⟨rfl, _⟩ | ⟨a, len, cap, elems, rest, n, hf, rfl, rfl, hb, hl, hm, hlen, hel, _, _⟩
  · exact ⟨none, 0, 0, 0, by omega, rfl, by omega, by simp [reachBytes], fun i hi => absurd hi (by omega)⟩
  · obtain ⟨hw, hd⟩ := Light.slice ht hx
    refine ⟨some a, len, cap, n, by omega, rfl, hl, ?_, fun i hi => ?_⟩
    · refine Nat.le_trans ?_ hw
      rw [List.length_map, hlen]
      exact Nat.mul_le_mul_right _ (by omega)
    · have h1 := hel i hi
      rw [List.getElem?_eq_getElem (by omega)] at h1
      obtain ⟨cs', h2, h3⟩ := Option.bind_eq_some_iff.1 h1
      exact ⟨a, cs', _, rfl, h2, h3, hd _ (List.mem_map_of_mem (List.getElem_mem _))⟩

theorem open_two {t : TypeId} {fa fb : Field} {fuel : Nat} {cs : List Value} {x : DataW H × List MemPlace} (ht : Try.prog.underlying t = some (.struct #[fa, fb])) (h : DataW.trod enc Try.prog w base sp held fuel t cs = some x) (hx : Light t x.1) :
    ∃ (n : Nat) (ya yb : DataW H × List MemPlace), n < fuel ∧ cs.length = Try.prog.cellsOf t ∧ DataW.trod enc Try.prog w base sp held n fa.type ((cs.drop fa.offset).take (Try.prog.cellsOf fa.type)) = some ya ∧ Light fa.type ya.1 ∧
      DataW.trod enc Try.prog w base sp held n fb.type ((cs.drop fb.offset).take (Try.prog.cellsOf fb.type)) = some yb ∧ Light fb.type yb.1 := by
  obtain ⟨xs, n, hf, rfl, hlen, hxs, hfs⟩ := DataW.trod_struct ht h
  have hsz : xs.length = 2 := by rw [hxs]; rfl
  have g0 := hfs 0 fa rfl
  have g1 := hfs 1 fb rfl
  rw [List.getElem?_eq_getElem (by omega)] at g0 g1
  exact ⟨n, _, _, by omega, hlen, g0, Light.agg (i := 0) ht hx rfl (by rw [List.getElem?_map, List.getElem?_eq_getElem (by omega)]; rfl), g1, Light.agg (i := 1) ht hx rfl (by rw [List.getElem?_map, List.getElem?_eq_getElem (by omega)]; rfl)⟩

theorem cells_of {a : Addr} {n : Nat} {cs : List Value} (h : w.cells? base a n = some cs) : Cells w a cs := by
  obtain ⟨_, h1, h2⟩ := World.cells?_some h
  intro j u hu
  have hj : j < n := by have := (List.getElem?_eq_some_iff.1 hu).1; omega
  rw [h2 j hj, hu]

theorem bytes42 : Try.prog.bytesOf 42 = 88 := by kernel_rfl
theorem bytes44 : Try.prog.bytesOf 44 = 104 := by kernel_rfl
theorem bytes214 : Try.prog.bytesOf 214 = 104 := by kernel_rfl
theorem bytes28 : Try.prog.bytesOf 28 = 48 := by kernel_rfl
theorem cells42 : Try.prog.cellsOf 42 = 6 := by kernel_rfl
theorem cells44 : Try.prog.cellsOf 44 = 7 := by kernel_rfl
theorem cells214 : Try.prog.cellsOf 214 = 7 := by kernel_rfl
theorem cells28 : Try.prog.cellsOf 28 = 2 := by kernel_rfl
theorem cells38 : Try.prog.cellsOf 38 = 1 := by kernel_rfl
theorem cells4 : Try.prog.cellsOf 4 = 1 := by kernel_rfl
theorem cells2 : Try.prog.cellsOf 2 = 1 := by kernel_rfl
theorem cells9 : Try.prog.cellsOf 9 = 1 := by kernel_rfl
theorem cells39 : Try.prog.cellsOf 39 = 1 := by kernel_rfl
theorem cells40 : Try.prog.cellsOf 40 = 1 := by kernel_rfl
theorem cells26 : Try.prog.cellsOf 26 = 1 := by kernel_rfl
theorem cells22 : Try.prog.cellsOf 22 = 1 := by kernel_rfl

theorem list6 {cs : List Value} (h : cs.length = 6) : ∃ a b c d e f, cs = [a, b, c, d, e, f] := by
  match cs, h with
  | [a, b, c, d, e, f], _ => exact ⟨a, b, c, d, e, f, rfl⟩
theorem reach_eq : reachBytes = 140737488351232 := by decide
theorem size_list (s : ByteArray) : s.data.toList.length = s.size := by rw [Array.length_toList]; rfl

theorem open_val : ∀ (fuel : Nat) (cs : List Value) (x : DataW H × List MemPlace), DataW.trod enc Try.prog w base sp held fuel 42 cs = some x → Light 42 x.1 →
    ∃ v pl cl po co, cs = vcells v pl cl po co ∧ VIn w (fun _ => True) v pl po ∧ v.Fits := by
  intro fuel
  induction fuel using Nat.strongRecOn with
  | ind fuel ih =>
  intro cs x h hx
  obtain ⟨xs, n, hf, rfl, hlen, hxs, hfs⟩ := DataW.trod_struct Try.underlying42 h
  rw [cells42] at hlen
  obtain ⟨c0, c1, c2, c3, c4, c5, rfl⟩ := list6 hlen
  have hg : ∀ (i : Nat) (f : Field), (#[({ name := "Kind", type := 38, offset := 0, embedded := false, tag := "", pkgPath := "", byteOffset := 0 } : Field),
        { name := "Bool", type := 4, offset := 1, embedded := false, tag := "", pkgPath := "", byteOffset := 8 },
        { name := "Int", type := 2, offset := 2, embedded := false, tag := "", pkgPath := "", byteOffset := 16 },
        { name := "Text", type := 9, offset := 3, embedded := false, tag := "", pkgPath := "", byteOffset := 24 },
        { name := "List", type := 39, offset := 4, embedded := false, tag := "", pkgPath := "", byteOffset := 40 },
        { name := "Object", type := 40, offset := 5, embedded := false, tag := "", pkgPath := "", byteOffset := 64 }] : Array Field)[i]? = some f →
      ∃ y, DataW.trod enc Try.prog w base sp held n f.type (([c0, c1, c2, c3, c4, c5].drop f.offset).take (Try.prog.cellsOf f.type)) = some y ∧ Light f.type y.1 := by
    intro i f hif
    have h1 := hfs i f hif
    have hi : i < 6 := by have := (Array.getElem?_eq_some_iff.1 hif).1; simpa using this
    have hsz : xs.length = 6 := by rw [hxs]; rfl
    rw [List.getElem?_eq_getElem (by omega)] at h1
    exact ⟨_, h1, Light.agg Try.underlying42 hx hif (by rw [List.getElem?_map, List.getElem?_eq_getElem (by omega)]; rfl)⟩
  obtain ⟨y0, h0, _⟩ := hg 0 _ rfl
  obtain ⟨y1, h1, _⟩ := hg 1 _ rfl
  obtain ⟨y2, h2, _⟩ := hg 2 _ rfl
  obtain ⟨y3, h3, l3⟩ := hg 3 _ rfl
  obtain ⟨y4, h4, l4⟩ := hg 4 _ rfl
  obtain ⟨y5, h5, l5⟩ := hg 5 _ rfl
  replace h0 : DataW.trod enc Try.prog w base sp held n 38 (([c0, c1, c2, c3, c4, c5].drop 0).take (Try.prog.cellsOf 38)) = some y0 := h0
  rw [cells38] at h0
  replace h0 : DataW.trod enc Try.prog w base sp held n 38 [c0] = some y0 := h0
  replace h1 : DataW.trod enc Try.prog w base sp held n 4 (([c0, c1, c2, c3, c4, c5].drop 1).take (Try.prog.cellsOf 4)) = some y1 := h1
  rw [cells4] at h1
  replace h1 : DataW.trod enc Try.prog w base sp held n 4 [c1] = some y1 := h1
  replace h2 : DataW.trod enc Try.prog w base sp held n 2 (([c0, c1, c2, c3, c4, c5].drop 2).take (Try.prog.cellsOf 2)) = some y2 := h2
  rw [cells2] at h2
  replace h2 : DataW.trod enc Try.prog w base sp held n 2 [c2] = some y2 := h2
  replace h3 : DataW.trod enc Try.prog w base sp held n 9 (([c0, c1, c2, c3, c4, c5].drop 3).take (Try.prog.cellsOf 9)) = some y3 := h3
  rw [cells9] at h3
  replace h3 : DataW.trod enc Try.prog w base sp held n 9 [c3] = some y3 := h3
  replace h4 : DataW.trod enc Try.prog w base sp held n 39 (([c0, c1, c2, c3, c4, c5].drop 4).take (Try.prog.cellsOf 39)) = some y4 := h4
  rw [cells39] at h4
  replace h4 : DataW.trod enc Try.prog w base sp held n 39 [c4] = some y4 := h4
  replace h5 : DataW.trod enc Try.prog w base sp held n 40 (([c0, c1, c2, c3, c4, c5].drop 5).take (Try.prog.cellsOf 40)) = some y5 := h5
  rw [cells40] at h5
  replace h5 : DataW.trod enc Try.prog w base sp held n 40 [c5] = some y5 := h5
  obtain ⟨k, e0, _⟩ := DataW.trod_int Try.underlying38 h0
  obtain ⟨b, e1, _⟩ := DataW.trod_bool Try.underlying4 h1
  obtain ⟨m, e2, _⟩ := DataW.trod_int Try.underlying2 h2
  obtain ⟨t, e3, rfl, _⟩ := DataW.trod_string Try.underlying9 h3
  obtain ⟨pl, ll, cl, n1, hn1, e4, _, hw4, he4⟩ := open_elems Try.underlying39 h4 l4
  obtain ⟨po, lo, co, n2, hn2, e5, _, hw5, he5⟩ := open_elems Try.underlying40 h5 l5
  have ht := l3.text
  rw [size_list] at ht
  rw [bytes42] at hw4
  rw [bytes214] at hw5
  rw [cells42] at he4
  rw [cells214] at he5
  rw [reach_eq] at hw4 hw5 ht
  obtain ⟨L, hL, hLp⟩ := mk_list (p := fun i (v : V) => ∃ a ql cl' qo co', pl = some a ∧ Cells w (a.add (i * 6)) (vcells v ql cl' qo co') ∧ VIn w (fun _ => True) v ql qo ∧ v.Fits) (n := ll) fun i hi => by
    obtain ⟨a, cs', y, ha, hc, hy, ly⟩ := he4 i hi
    obtain ⟨v, p1, q1, p2, q2, rfl, hv, hvf⟩ := ih n1 (by omega) cs' y hy ly
    exact ⟨v, a, _, _, _, _, ha, cells_of hc, hv, hvf⟩
  obtain ⟨O, hO, hOp⟩ := mk_list (p := fun i (v : Key × V) => ∃ a ql cl' qo co', po = some a ∧ Cells w (a.add (i * 7)) (ecells v.1 v.2 ql cl' qo co') ∧ VIn w (fun _ => True) v.2 ql qo ∧ v.2.Fits ∧ v.1.size ≤ 140737488351232) (n := lo) fun i hi => by
    obtain ⟨a, cs', y, ha, hc, hy, ly⟩ := he5 i hi
    obtain ⟨n', y0, y1, hf', hlen', g0, q0, g1, q1⟩ := open_two Try.underlying214 hy ly
    rw [cells214] at hlen'
    obtain ⟨k0, r0, hcs⟩ : ∃ k0 r0, cs' = k0 :: r0 := by cases cs' with | nil => simp at hlen' | cons k0 r0 => exact ⟨_, _, rfl⟩
    subst hcs
    simp only [cells9, cells42, List.drop_zero, List.drop_succ_cons, List.take_succ_cons, List.take_zero] at g0 g1 q0 q1
    obtain ⟨kk, ek, ekx, _⟩ := DataW.trod_string Try.underlying9 g0
    subst ekx
    have hkk := q0.text
    rw [size_list, reach_eq] at hkk
    have er : r0.take 6 = r0 := List.take_of_length_le (by simp at hlen'; omega)
    rw [er] at g1
    obtain ⟨v, p1, c1', p2, c2', rfl, hv, hvf⟩ := ih n' (by omega) r0 _ g1 q1
    injection ek with ek
    subst ek
    exact ⟨(kk, v), a, _, _, _, _, ha, cells_of hc, hv, hvf, hkk⟩
  injection e0 with e0
  injection e1 with e1
  injection e2 with e2
  injection e3 with e3
  injection e4 with e4
  injection e5 with e5
  subst e0 e1 e2 e3 e4 e5
  refine ⟨.mk k b m t L O, pl, cl, po, co, ?_, VIn.of (fun i y hy => ?_) (fun i y hy => ?_), V.Fits.mk (by omega) (by omega) (by omega) ?_ ?_ ?_⟩
  · simp [vcells, V.kind, V.bool, V.num, V.text, V.list, V.obj, hL, hO]
  · obtain ⟨a, p1, q1, p2, q2, ha, hc, hv, hvf⟩ := hLp i y hy
    exact ⟨a, p1, q1, p2, q2, ha, trivial, hc, hv⟩
  · obtain ⟨a, p1, q1, p2, q2, ha, hc, hv, hvf, _⟩ := hOp i y hy
    exact ⟨a, p1, q1, p2, q2, ha, trivial, hc, hv⟩
  · intro kx hk
    obtain ⟨i, hi⟩ := List.mem_iff_getElem?.1 hk
    obtain ⟨a, p1, q1, p2, q2, ha, hc, hv, hvf, hkk⟩ := hOp i kx hi
    omega
  · intro y hk
    obtain ⟨i, hi⟩ := List.mem_iff_getElem?.1 hk
    obtain ⟨a, p1, q1, p2, q2, ha, hc, hv, hvf⟩ := hLp i y hi
    exact hvf
  · intro kx hk
    obtain ⟨i, hi⟩ := List.mem_iff_getElem?.1 hk
    obtain ⟨a, p1, q1, p2, q2, ha, hc, hv, hvf, hkk⟩ := hOp i kx hi
    exact hvf

theorem open_entries {fuel : Nat} {cs : List Value} {x : DataW H × List MemPlace} (h : DataW.trod enc Try.prog w base sp held fuel 26 cs = some x) (hx : Light 26 x.1) :
    ∃ (es : List En) (p : Option Addr) (c : Nat), cs = [.slice p es.length c] ∧ EIn w (fun _ => True) es p ∧ es.length ≤ c ∧ es.length * 104 ≤ 140737488355328 ∧ ∀ e ∈ es, e.2.Fits ∧ e.1.size ≤ 140737488355328 := by
  obtain ⟨p, ll, cl, n1, hn1, e4, hcap, hw4, he4⟩ := open_elems Try.underlying26 h hx
  rw [bytes44, reach_eq] at hw4
  rw [cells44] at he4
  obtain ⟨O, hO, hOp⟩ := mk_list (p := fun i (v : Key × V) => ∃ a ql cl' qo co', p = some a ∧ Cells w (a.add (i * 7)) (ecells v.1 v.2 ql cl' qo co') ∧ VIn w (fun _ => True) v.2 ql qo ∧ v.2.Fits ∧ v.1.size ≤ 140737488351232) (n := ll) fun i hi => by
    obtain ⟨a, cs', y, ha, hc, hy, ly⟩ := he4 i hi
    obtain ⟨n', y0, y1, hf', hlen', g0, q0, g1, q1⟩ := open_two Try.underlying44 hy ly
    rw [cells44] at hlen'
    obtain ⟨k0, r0, hcs⟩ : ∃ k0 r0, cs' = k0 :: r0 := by cases cs' with | nil => simp at hlen' | cons k0 r0 => exact ⟨_, _, rfl⟩
    subst hcs
    simp only [cells9, cells42, List.drop_zero, List.drop_succ_cons, List.take_succ_cons, List.take_zero] at g0 g1 q0 q1
    obtain ⟨kk, ek, ekx, _⟩ := DataW.trod_string Try.underlying9 g0
    subst ekx
    have hkk := q0.text
    rw [size_list, reach_eq] at hkk
    have er : r0.take 6 = r0 := List.take_of_length_le (by simp at hlen'; omega)
    rw [er] at g1
    obtain ⟨v, p1, c1', p2, c2', rfl, hv, hvf⟩ := open_val n' r0 _ g1 q1
    injection ek with ek
    subst ek
    exact ⟨(kk, v), a, _, _, _, _, ha, cells_of hc, hv, hvf, hkk⟩
  subst hO
  refine ⟨O, p, cl, e4, fun i y hy => ?_, hcap, by omega, fun e he => ?_⟩
  · obtain ⟨a, p1, q1, p2, q2, ha, hc, hv, hvf, _⟩ := hOp i y hy
    exact ⟨a, p1, q1, p2, q2, ha, trivial, hc, hv⟩
  · obtain ⟨i, hi⟩ := List.mem_iff_getElem?.1 he
    obtain ⟨a, p1, q1, p2, q2, ha, hc, hv, hvf, hkk⟩ := hOp i e hi
    exact ⟨hvf, by omega⟩

theorem list2 {cs : List Value} (h : cs.length = 2) : ∃ a b, cs = [a, b] := by
  match cs, h with
  | [a, b], _ => exact ⟨a, b, rfl⟩
theorem open_shape : ∀ (fuel : Nat) (cs : List Value) (x : DataW H × List MemPlace), DataW.trod enc Try.prog w base sp held fuel 28 cs = some x → Light 28 x.1 →
    ∃ (s : Sh) (pe : Option Addr) (ce : Nat) (pk : Option Addr) (ck : Nat), cs = [.slice pe s.es.length ce, .slice pk s.kids.length ck] ∧ SIn w (fun _ => True) s pe pk ∧ s.Fits := by
  intro fuel
  induction fuel using Nat.strongRecOn with
  | ind fuel ih =>
  intro cs x h hx
  obtain ⟨n, y0, y1, hf, hlen, g0, q0, g1, q1⟩ := open_two Try.underlying28 h hx
  rw [cells28] at hlen
  obtain ⟨c0, c1, rfl⟩ := list2 hlen
  simp only [cells26, cells22, List.drop_zero, List.drop_succ_cons, List.take_succ_cons, List.take_zero] at g0 g1 q0 q1
  obtain ⟨es, pe, ce, e0, hes, hce, hl1, hf1⟩ := open_entries g0 q0
  obtain ⟨pk, ll, cl, n1, hn1, e1, hcap, hw4, he4⟩ := open_elems Try.underlying22 g1 q1
  rw [bytes28, reach_eq] at hw4
  rw [cells28] at he4
  obtain ⟨K, hK, hKp⟩ := mk_list (p := fun i (s : Sh) => ∃ a qe ce' qk ck', pk = some a ∧ Cells w (a.add (i * 2)) [.slice qe s.es.length ce', .slice qk s.kids.length ck'] ∧ SIn w (fun _ => True) s qe qk ∧ s.Fits) (n := ll) fun i hi => by
    obtain ⟨a, cs', y, ha, hc, hy, ly⟩ := he4 i hi
    obtain ⟨s, p1, k1, p2, k2, rfl, hs, hsf⟩ := ih n1 (by omega) cs' y hy ly
    exact ⟨s, a, _, _, _, _, ha, cells_of hc, hs, hsf⟩
  subst hK
  injection e0 with e0
  injection e1 with e1
  subst e0 e1
  refine ⟨.mk es K, pe, ce, pk, cl, rfl, SIn.of hes (fun i k hi => ?_), Sh.Fits.mk hl1 (by omega) hf1 fun k hk => ?_⟩
  · obtain ⟨a, qe, ce', qk, ck', ha, hc, hs, hsf⟩ := hKp i k hi
    exact ⟨a, qe, ce', qk, ck', ha, trivial, hc, hs⟩
  · obtain ⟨i, hi⟩ := List.mem_iff_getElem?.1 hk
    obtain ⟨a, qe, ce', qk, ck', ha, hc, hs, hsf⟩ := hKp i k hi
    exact hsf
end
end Go.Proofs.Ytajcmpafbcpicaa
