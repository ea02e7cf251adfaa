/- Plain: the kid to which a key belongs, and what stands on both its sides. No program in sight. No conditions. -/
import Derived.Test.YtajcmpafbcpicaaTreeLaws
import Derived.Test.YtajcmpafbcpicaaInnerLaws
set_option linter.unusedVariables false
set_option linter.unusedSimpArgs false
namespace Go.Proofs.Ytajcmpafbcpicaa

/-- The kid at i is the last one whose first key is not above the key; or the first one. -/
structure KidAt (ks : List Nd) (k : Key) (i : Nat) : Prop where
  lt : i < ks.length
  lo : ∀ n, 0 < i → ks[i]? = some n → klt k (firstKey n.sh.flat) = false
  hi : ∀ j n, i < j → ks[j]? = some n → klt k (firstKey n.sh.flat) = true

theorem flats_split {ks : List Nd} {i : Nat} {n : Nd} (h : ks[i]? = some n) : flats (shs ks) = flats (shs (ks.take i)) ++ (n.sh.flat ++ flats (shs (ks.drop (i + 1)))) := by
  have e : ks = ks.take i ++ n :: ks.drop (i + 1) := by
    have hl := (List.getElem?_eq_some_iff.1 h).1
    rw [← (List.getElem?_eq_some_iff.1 h).2, ← List.drop_eq_getElem_cons hl, List.take_append_drop]
  conv => lhs; rw [e]
  simp [shs_map, flats_append, flats]
theorem klt_of_not {x f k : Key} (h1 : klt x f = true) (h2 : klt k f = false) : klt x k = true := by
  cases h : klt x k with
  | true => rfl
  | false =>
    cases h' : klt k x with
    | true => have := klt_trans h' h1; rw [h2] at this; cases this
    | false => have := klt_total h h'; subst this; rw [h1] at h2; cases h2
theorem KidAt.left {ks : List Nd} {k : Key} {i : Nat} {n : Nd} (h : KidAt ks k i) (hn : ks[i]? = some n) (hr : rising (flats (shs ks)) = true) (hne : n.sh.flat ≠ []) :
    ∀ x ∈ flats (shs (ks.take i)), klt x.1 k = true := by
  intro x hx
  have hi : 0 < i := by
    rcases Nat.eq_zero_or_pos i with e | e
    · subst e; simp [shs, flats] at hx
    · exact e
  rw [flats_split hn] at hr
  obtain ⟨_, _, h3⟩ := rising_append.1 hr
  obtain ⟨y, hy, ey⟩ := firstKey_mem hne
  have h1 := h3 x hx y (List.mem_append_left _ hy)
  rw [ey] at h1
  exact klt_of_not h1 (h.lo n hi hn)
theorem KidAt.right {ks : List Nd} {k : Key} {i : Nat} (h : KidAt ks k i) (hok : ∀ n ∈ ks, n.ok) : ∀ y ∈ flats (shs (ks.drop (i + 1))), klt k y.1 = true := by
  intro y hy
  rw [shs_map, flats_flatMap, List.mem_flatMap] at hy
  obtain ⟨s, hs, hys⟩ := hy
  obtain ⟨n, hn, rfl⟩ := List.mem_map.1 hs
  obtain ⟨j, hj⟩ := List.mem_iff_getElem?.1 hn
  rw [List.getElem?_drop] at hj
  have h1 := h.hi (i + 1 + j) n (by omega) hj
  rcases firstKey_le (may_rising (hok n (List.mem_of_mem_drop hn))) hys with e | e
  · rw [← e]; exact h1
  · exact klt_trans h1 e
theorem KidAt.ins {ks : List Nd} {k : Key} {v : V} {i : Nat} {n : Nd} (h : KidAt ks k i) (hn : ks[i]? = some n) (hr : rising (flats (shs ks)) = true) (hok : ∀ n ∈ ks, n.ok ∧ n.sh.flat ≠ []) :
    insE k v (flats (shs ks)) = flats (shs (ks.take i)) ++ (insE k v n.sh.flat ++ flats (shs (ks.drop (i + 1)))) := by
  have hne := (hok n (List.mem_of_getElem? hn)).2
  rw [flats_split hn, insE_skip (h.left hn hr hne), insE_stop (h.right fun n hn => (hok n hn).1)]
theorem KidAt.del {ks : List Nd} {k : Key} {i : Nat} {n : Nd} (h : KidAt ks k i) (hn : ks[i]? = some n) (hr : rising (flats (shs ks)) = true) (hok : ∀ n ∈ ks, n.ok ∧ n.sh.flat ≠ []) :
    delE k (flats (shs ks)) = flats (shs (ks.take i)) ++ (delE k n.sh.flat ++ flats (shs (ks.drop (i + 1)))) := by
  have hne := (hok n (List.mem_of_getElem? hn)).2
  rw [flats_split hn, delE_skip (h.left hn hr hne), delE_stop (h.right fun n hn => (hok n hn).1)]
theorem KidAt.get {ks : List Nd} {k : Key} {i : Nat} {n : Nd} (h : KidAt ks k i) (hn : ks[i]? = some n) (hr : rising (flats (shs ks)) = true) (hok : ∀ n ∈ ks, n.ok ∧ n.sh.flat ≠ []) :
    getE k (flats (shs ks)) = getE k n.sh.flat := by
  have hne := (hok n (List.mem_of_getElem? hn)).2
  rw [flats_split hn, getE_skip (h.left hn hr hne), getE_stop (h.right fun n hn => (hok n hn).1)]
theorem Nd.flat_kids {n : Nd} (hk : n.kids ≠ []) : n.sh.flat = flats (shs n.kids) := by
  rw [Nd.flat_inner hk, shs_map, flats_flatMap]

/-- How many of its nodes are fresh: from the block B on; and the blocks of its nodes. -/
def Nd.news (B : Nat) : Nd → Nat
  | .mk a _ ks => (if B ≤ a then 1 else 0) + newss B ks
where newss (B : Nat) : List Nd → Nat
  | [] => 0
  | k :: ks => k.news B + newss B ks
def Nd.addrs : Nd → List Nat
  | .mk a _ ks => a :: addrss ks
where addrss : List Nd → List Nat
  | [] => []
  | k :: ks => k.addrs ++ addrss ks
end Go.Proofs.Ytajcmpafbcpicaa
