/- maps.DeleteFunc as Forget calls it. Conditions: the map's entries are known. -/
import Derived.Test.YtnngkjjabccglaaTForgetL
import Derived.Maps.OwnOps
set_option linter.unusedVariables false
set_option linter.unusedSimpArgs false
namespace Go.Proofs.Ytnngkjjabccglaa
open Go.RowKit Go.ChangeMaps Go.Instr

theorem eraseIdx_born : ∀ (l : List MapEntry) (j : Nat) (e : MapEntry), (l.map (·.born)).Nodup → l[j]? = some e → l.eraseIdx j = l.filter fun x => decide (x.born ≠ e.born)
  | [], j, e, _, h => by simp at h
  | y :: l, 0, e, hn, h => by
    simp at h
    subst h
    simp only [List.map_cons, List.nodup_cons] at hn
    have : l.filter (fun x => decide (x.born ≠ y.born)) = l := List.filter_eq_self.2 fun x hx => decide_eq_true fun e => hn.1 (e ▸ List.mem_map_of_mem (f := fun x : MapEntry => x.born) hx)
    simp only [List.eraseIdx_cons_zero, List.filter_cons]
    rw [this]
    simp
  | y :: l, j + 1, e, hn, h => by
    simp only [List.map_cons, List.nodup_cons] at hn
    simp only [List.getElem?_cons_succ] at h
    have hne : y.born ≠ e.born := fun eq => hn.1 (eq ▸ List.mem_map_of_mem (f := fun x : MapEntry => x.born) (List.mem_of_getElem? h))
    simp only [List.eraseIdx_cons_succ, List.filter_cons]
    rw [eraseIdx_born l j e hn.2 h]
    simp [hne]

section
variable {P : Program} {t kt et : TypeId}
theorem MapX.del {w : World} {b clk : Nat} {es : Array MapEntry} (h : MapX w b es clk) (hkn : (es.toList.map (·.key)).Nodup) (ht : P.underlying t = some (.map kt et)) (hk : P.underlying kt = some (.int .u64)) {e : MapEntry} (he : e ∈ es.toList) {k : Nat} (hek : e.key = u64v k) (t2 ty : TypeId) :
    ∃ w' es', (Builtin.delete_ #[t, t2] ty #[.map (some b), u64v k]).run P w = .ok (.tuple #[]) w' ∧ MapX w' b es' clk ∧ es'.toList = es.toList.filter (fun x => decide (x.born ≠ e.born)) ∧ w.grownBy w' (some b) := by
  have hb := h.blk
  have hkeys : ∃ kv : List (Nat × Value), es.toList.map (fun e => (e.key, e.val)) = kv.map (fun x => (u64v x.1, x.2)) := by
    have : ∀ l : List MapEntry, (∀ e ∈ l, ∃ k : Nat, e.key = u64v k) → ∃ kv : List (Nat × Value), l.map (fun e => (e.key, e.val)) = kv.map (fun x => (u64v x.1, x.2)) := by
      intro l
      induction l with
      | nil => exact fun _ => ⟨[], rfl⟩
      | cons y l ih =>
        intro hl
        obtain ⟨kv, hkv⟩ := ih fun e he => hl e (List.mem_cons_of_mem _ he)
        obtain ⟨n, hn⟩ := hl y List.mem_cons_self
        exact ⟨(n, y.val) :: kv, by simp [hkv, hn]⟩
    exact this _ h.keys
  obtain ⟨kv, hkv⟩ := hkeys
  obtain ⟨r, h1, h2, h3⟩ := findNow_u (k := k) es.toList kv 0 hkv
  have hf := run_findKey_u (P := P) (w := w) hk h1
  have hc := fun b => run_checkKey_u (P := P) (w := w) (k := k) (b := b) hk
  have hg : (getObj b).run P w = .ok (.map es clk) w := by simp [getObj, Sem.run, hb]
  have hu : (Go.underlying t).run P w = .ok (.map kt et) w := by simp [Go.underlying, Sem.run, Sem.run_bind, ht]
  have hset : ∀ o, (setObj b o).run P w = .ok () (setBlock w b o) := fun o => by simp [setObj, Sem.run, hb, setBlock]
  have hgr : ∀ o, w.grownBy (setBlock w b o) (some b) := fun o => ⟨rfl, rfl, rfl, by simp [setBlock], fun i _ hi => heap_setBlock_other hb _ (fun e => hi (by rw [e]))⟩
  cases r with
  | none =>
    exfalso
    obtain ⟨h4, _⟩ := h2 rfl
    have hm : (u64v k, e.val) ∈ kv.map (fun x => (u64v x.1, x.2)) := by rw [← hkv, ← hek]; exact List.mem_map_of_mem (f := fun e : MapEntry => (e.key, e.val)) he
    obtain ⟨x, hx, hxe⟩ := List.mem_map.1 hm
    injection hxe with e1 _
    have e1 := u64v_inj e1
    have : ∀ l : List (Nat × Value), x ∈ l → x.1 = k → lookU k l ≠ none := by
      intro l
      induction l with
      | nil => intro h; cases h
      | cons y l ih =>
        intro hm hk'
        unfold lookU
        rcases List.mem_cons.1 hm with rfl | hm
        · rw [if_pos hk']; simp
        · split
          · simp
          · exact ih hm hk'
    exact this kv hx e1 h4
  | some ju =>
    obtain ⟨j, u⟩ := ju
    obtain ⟨h4, h5, ⟨e', h6, h6'⟩, h7⟩ := h3 j u rfl
    simp only [Nat.sub_zero] at h6
    have hee : e' = e := pair_fst (fun x : MapEntry => x.key) hkn (List.mem_of_getElem? h6) he (by rw [h6', hek])
    subst hee
    have hlt : j < es.size := by
      have := (List.getElem?_eq_some_iff.1 h6).1
      simpa using this
    have her : (es.eraseIdxIfInBounds j).toList = es.toList.filter (fun x => decide (x.born ≠ e'.born)) := by
      rw [← eraseIdx_born es.toList j e' h.nd h6]
      simp [Array.eraseIdxIfInBounds, hlt]
    refine ⟨setBlock w b (.map (es.eraseIdxIfInBounds j) clk), es.eraseIdxIfInBounds j, ?_, ⟨heap_setBlock_same hb _, fun x hx => ?_, ?_, fun x hx => ?_⟩, her, hgr _⟩
    · unfold Builtin.delete_
      simp [Sem.run_bind, hu, hg, hc, hf, hset, Result.andThen, Sem.run]
    · rw [her] at hx; exact h.born x (List.mem_filter.1 hx).1
    · rw [her]; exact (List.Sublist.map _ List.filter_sublist).nodup h.nd
    · rw [her] at hx; exact h.keys x (List.mem_filter.1 hx).1
theorem wpList_delete_x {w : World} {ops : Array Oper} {rest : List Oper} {o : Oper} {a : Act} {Q : Exit → Act → World → Prop} (hg : o.guard = none) (m x : Operand) (t t2 : TypeId) (hop : o.op = .call { callee := .builtin .delete, args := #[m, x], argTypes := #[t, t2] }) (kt et : TypeId)
    (ht : P.underlying t = some (.map kt et)) (hk : P.underlying kt = some (.int .u64)) {b clk : Nat} {es : Array MapEntry} (h : MapX w b es clk) (hkn : (es.toList.map (·.key)).Nodup) {e : MapEntry} (he : e ∈ es.toList) {k : Nat} (hek : e.key = u64v k) (hm : a.eval m = .map (some b)) (hx : a.eval x = u64v k)
    (hK : ∀ w' es', MapX w' b es' clk → es'.toList = es.toList.filter (fun x => decide (x.born ≠ e.born)) → w.grownBy w' (some b) → wpList P ops Q rest (a.put o.dst (.tuple #[])) w') : wpList P ops Q (o :: rest) a w := by
  refine wpList_plain hg fun K' hK' => ?_
  obtain ⟨w', es', hrun, h1, h2, h3⟩ := h.del (P := P) hkn ht hk he hek t2 o.type
  unfold Oper.wp execOp
  simp only [hop, resolve, invoke, builtin, Sem.run_bind, Sem.run_pure, Result.andThen_ok, List.map_toArray, List.map_cons, List.map_nil, hm, hx, hrun]
  exact hK' _ _ (hK w' es' h1 h2 h3)
end

theorem fg1_any (k v x3 : Nat) (x : Value) {w : World} (h : Blk w x3 22 #[u64v v]) : Calls Try.prog 27 #[u64v k, x, .pointer (some ⟨x3, 0, none⟩)] w fun e w' => e = .returned (.bool (decide (k < v))) ∧ w = w' := by
  have c0 := h.cell 0
  simp at c0
  go_enter Try.func27, Try.ntmps27
  go_wp2_with fail
  go_ret
  refine ⟨?_, rfl⟩
  have : decide ((k : Int) < (v : Int)) = decide (k < v) := by by_cases h : k < v <;> simp [h] <;> omega
  first | exact congrArg (fun b => Ending.returned (Value.bool b)) this | simp [this] | rfl

def keepE (v : Nat) (e : MapEntry) : Bool := match e.key with | .int _ n => decide ((v : Int) ≤ n) | _ => false
def esS (es0 : Array MapEntry) (seen : Array Nat) (v : Nat) : List MapEntry := es0.toList.filter fun e => !seen.contains e.born || keepE v e
structure DLoop (w : World) (b r clk v : Nat) (es0 : Array MapEntry) (seen : Array Nat) (wr : World) : Prop where
  iter : IterX wr r b clk seen
  ne : r ≠ b
  mapx : ∃ es, MapX wr b es clk ∧ es.toList = esS es0 seen v
  grow : w.grownBy wr (some b)
  new : w.heap.size ≤ r
theorem grownBy_two {a b c : World} {row : Option Nat} {r : Nat} (h : a.grownBy b row) (k : b.grownBy c (some r)) (hr : a.heap.size ≤ r) : a.grownBy c row :=
  ⟨k.os.trans h.os, k.tape.trans h.tape, k.output.trans h.output, Nat.le_trans h.size k.size, fun i hi hne => (k.block i (Nat.lt_of_lt_of_le hi h.size) (fun e => by injection e with e; omega)).trans (h.block i hi hne)⟩
set_option maxRecDepth 100000 in
set_option maxHeartbeats 4000000 in
theorem tdel_any {w : World} {b x3 v : Nat} {who : List (Nat × Nat)} (hnd : (who.map (·.1)).Nodup) (h : MapB w b (who.map fun x => (x.1, u64v x.2))) (hx : Blk w x3 22 #[u64v v]) :
    Calls Try.prog 26 #[.map (some b), .func (.func 27) #[] #[.pointer (some ⟨x3, 0, none⟩)]] w fun e w' => e = .returned (.tuple #[]) ∧ w.grownBy w' (some b) ∧ MapB w' b ((who.filter fun x => decide (v ≤ x.1)).map fun x => (x.1, u64v x.2)) := by
  obtain ⟨es0, clk, hm0, hkv0⟩ := h.x
  have hrg := run_range_x (P := Try.prog) hm0 Try.underlying27
  have hkn0 : (es0.toList.map (·.key)).Nodup := by
    have h1 : es0.toList.map (·.key) = (who.map (·.1)).map u64v := by
      have := congrArg (List.map (fun x : Value × Value => x.1)) hkv0
      simpa only [List.map_map, Function.comp_def] using this
    rw [h1]
    have hinj : ∀ l : List Nat, l.Nodup → (l.map u64v).Nodup := by
      intro l
      induction l with
      | nil => intro _; simp
      | cons a l ih =>
        intro hl
        simp only [List.nodup_cons] at hl
        simp only [List.map_cons, List.nodup_cons]
        refine ⟨fun hm => ?_, ih hl.2⟩
        obtain ⟨y, hy, e⟩ := List.mem_map.1 hm
        exact hl.1 (u64v_inj e ▸ hy)
    exact hinj _ hnd
  have hxb : x3 ≠ b := blk_not_map hx h
  have hstart : DLoop w b w.heap.size clk v es0 #[] (w.alloc (.mapIter (some b) clk #[] clk)) :=
    { iter := heap_alloc_new w _, ne := by have := hm0.lt; omega, mapx := ⟨es0, hm0.keep (Below.heap_alloc w _ b hm0.lt), by
        unfold esS
        exact (List.filter_eq_self.2 fun e _ => by simp).symm⟩, grow := World.grownBy_alloc w _ _, new := Nat.le_refl _ }
  have Hst := Lib.hid hstart
  have Hkn := Lib.hid hkn0
  have Hkv := Lib.hid hkv0
  have Hm0 := Lib.hid hm0
  have Hx := Lib.hid hx
  have hxl := hx.lt
  clear hstart hkn0 hkv0 hm0 h hnd hx
  go_enter Try.func26, Try.ntmps26
  go_wp2_with fail
  go_loopg [4] (unseen (kbOf es0) #[]) (fun kx v4 wr => ∃ seen, Hid (DLoop w b w.heap.size clk v es0 seen wr) ∧ unseen (kbOf es0) seen ≤ kx)
  case atStart => exact ⟨#[], Hst, Nat.le_refl _⟩
  case round =>
    obtain ⟨seen, HF, hm⟩ := hrel
    obtain ⟨es, hmx, hes⟩ := HF.out.mapx
    have Hes := Lib.hid hes
    clear Hst hrg hes
    go_wp2_with (at_next; refine wpList_next_x rfl _ rfl (r := w.heap.size) rfl hmx HF.out.iter HF.out.ne ?_ ?_)
    · intro hall
      have hall' : ∀ e ∈ es.toList, e.born ∈ seen.toList := fun e he => by simpa using hall e (Array.mem_toList_iff.1 he)
      have hfin : es.toList = es0.toList.filter (keepE v) := by
        rw [Hes.out]
        unfold esS
        refine List.filter_congr fun e he => ?_
        cases hk : keepE v e with
        | true => simp
        | false =>
          cases hc : seen.contains e.born with
          | true => simp
          | false =>
            exfalso
            have : e ∈ es.toList := by rw [Hes.out]; exact List.mem_filter.2 ⟨he, by simp only [hc, Bool.not_false, Bool.true_or]⟩
            have := hall' e this
            simp at hc
            exact hc (by simpa using this)
      have hkv : es.toList.map (fun e => (e.key, e.val)) = ((who.filter fun x => decide (v ≤ x.1)).map fun x => (x.1, u64v x.2)).map (fun x => (u64v x.1, x.2)) := by
        rw [hfin]
        have h1 : (es0.toList.filter (keepE v)).map (fun e => (e.key, e.val)) = (es0.toList.map (fun e => (e.key, e.val))).filter (fun p => match p.1 with | .int _ n => decide ((v : Int) ≤ n) | _ => false) := by
          rw [List.filter_map]; rfl
        rw [h1, Hkv.out, List.filter_map, List.filter_map, List.map_map]
        have h2 : (who.filter ((((fun p : Value × Value => match p.1 with | .int _ n => decide ((v : Int) ≤ n) | _ => false) ∘ fun x : Nat × Value => (u64v x.1, x.2)) ∘ fun x : Nat × Nat => (x.1, u64v x.2)))) = who.filter fun x => decide (v ≤ x.1) := by
          refine List.filter_congr fun x _ => ?_
          simp only [Function.comp]
          by_cases h : v ≤ x.1 <;> simp [h]
        rw [h2, List.map_map]
      have Hb := Lib.hid (hmx.b hkv)
      clear hall hall' hfin hkv hmx
      go_wp2_with fail
      go_end0
      exact ⟨rfl, HF.out.grow, Hb.out⟩
    · intro e w3 he hns hm3 hi3 hoth hgr hsz hen
      replace he := Array.mem_toList_iff.2 he
      replace hns : e.born ∉ seen.toList := fun h => hns (Array.mem_toList_iff.1 h)
      obtain ⟨c, hc⟩ := hm3.keys e he
      have he0 : e ∈ es0.toList := by rw [Hes.out] at he; exact (List.mem_filter.1 he).1
      have hknE : (es.toList.map (·.key)).Nodup := by rw [Hes.out]; exact (List.Sublist.map _ List.filter_sublist).nodup Hkn.out
      have hlt := unseen_push (kb := kbOf es0) (seen := seen) (n := e.born) (x := e.key) (List.mem_map_of_mem (f := fun e : MapEntry => (e.key, e.born)) he0) hns
      have hgrow3 : w.grownBy w3 (some b) := grownBy_two HF.out.grow hgr HF.out.new
      have hx3 : Blk w3 x3 22 #[u64v v] := Hx.out.grown hgrow3 (by simpa using hxb)
      have hpart : ∀ (hk : keepE v e = false), es.toList.filter (fun x => decide (x.born ≠ e.born)) = esS es0 (seen.push e.born) v := fun hk => by
        rw [Hes.out]
        unfold esS
        rw [List.filter_filter]
        refine List.filter_congr fun x hx => ?_
        by_cases hb : x.born = e.born
        · have : x = e := pair_fst (fun x : MapEntry => x.born) Hm0.out.nd hx he0 hb
          subst this
          simp [hk]
        · simp [hb]
      have hpart2 : ∀ (hk : keepE v e = true), es.toList = esS es0 (seen.push e.born) v := fun hk => by
        rw [Hes.out]
        unfold esS
        refine List.filter_congr fun x hx => ?_
        by_cases hb : x.born = e.born
        · have : x = e := pair_fst (fun x : MapEntry => x.born) Hm0.out.nd hx he0 hb
          subst this
          simp [hk]
        · simp [hb]
      have hkc : keepE v e = decide (v ≤ c) := by
        unfold keepE
        rw [hc]
        by_cases h : v ≤ c <;> simp [h]
      rw [hc] at hen
      have Hlt := Lib.hid hlt
      have Hgrow3 := Lib.hid hgrow3
      have Hx3 := Lib.hid hx3
      have Hi3 := Lib.hid hi3
      have Hp1 := Lib.hid hpart
      have Hp2 := Lib.hid hpart2
      have Hkc := Lib.hid hkc
      have HknE := Lib.hid hknE
      have Hhe := Lib.hid he
      have Hhc := Lib.hid hc
      have Hnew := Lib.hid (And.intro HF.out.ne HF.out.new)
      clear hlt hgrow3 hx3 hi3 hpart hpart2 hkc hknE hns hoth hgr hsz he0 HF hmx
      by_cases hcv : c < v
      · have d1 : decide (c < v) = true := decide_eq_true hcv
        go_wp2_with (first
          | (go_at_call 27; refine (fg1_any c v x3 _ Hx3.out).mono ?_; rintro e' w4 ⟨rfl, rfl⟩)
          | (at_delete; refine wpList_delete_x rfl _ _ 27 _ rfl 22 22 Try.underlying27 Try.underlying22 hm3 HknE.out Hhe.out Hhc.out rfl rfl ?_; intro w5 es5 hm5 hes5 hg5; go_frame))
        have HD : Hid (DLoop w b w.heap.size clk v es0 (seen.push e.born) w5) := Lib.hid {
          iter := Hi3.out.keep (hg5.block _ Hi3.out.lt (by simpa using Hnew.out.1)), ne := Hnew.out.1
          mapx := ⟨es5, hm5, by rw [hes5]; exact Hp1.out (by rw [Hkc.out]; simp; omega)⟩
          grow := Hgrow3.out.trans hg5, new := Hnew.out.2 }
        clear hm5 hes5 hg5 hm3
        go_roundg (unseen (kbOf es0) (seen.push e.born))
        case measure => have := Hlt.out; omega
        case rel => exact ⟨_, HD, Nat.le_refl _⟩
      · have d1 : decide (c < v) = false := decide_eq_false hcv
        have HD : Hid (DLoop w b w.heap.size clk v es0 (seen.push e.born) w3) := Lib.hid {
          iter := Hi3.out, ne := Hnew.out.1, mapx := ⟨es, hm3, Hp2.out (by rw [Hkc.out]; simp; omega)⟩, grow := Hgrow3.out, new := Hnew.out.2 }
        go_wp2_with (go_at_call 27; refine (fg1_any c v x3 _ Hx3.out).mono ?_; rintro e' w4 ⟨rfl, rfl⟩)
        go_roundg (unseen (kbOf es0) (seen.push e.born))
        case measure => have := Hlt.out; omega
        case rel => exact ⟨_, HD, Nat.le_refl _⟩
end Go.Proofs.Ytnngkjjabccglaa
