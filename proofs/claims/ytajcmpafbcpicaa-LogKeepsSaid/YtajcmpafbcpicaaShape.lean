/- Plain: shapes and nodes as trees; what the document says of them. No program in sight. No conditions. -/
import Derived.Test.YtajcmpafbcpicaaVal
set_option linter.unusedVariables false
set_option linter.unusedSimpArgs false
namespace Go.Proofs.Ytajcmpafbcpicaa

abbrev En := Key × V
inductive Sh where
  | mk (es : List En) (kids : List Sh)
/-- A node: the number of its block, its entries, its kids. -/
inductive Nd where
  | mk (a : Nat) (es : List En) (kids : List Nd)
def Sh.es : Sh → List En | .mk e _ => e
def Sh.kids : Sh → List Sh | .mk _ k => k
def Nd.addr : Nd → Nat | .mk a _ _ => a
def Nd.es : Nd → List En | .mk _ e _ => e
def Nd.kids : Nd → List Nd | .mk _ _ k => k

mutual
def Nd.sh : Nd → Sh
  | .mk _ es ks => .mk es (shs ks)
def shs : List Nd → List Sh
  | [] => []
  | k :: ks => k.sh :: shs ks
end
theorem shs_map (ks : List Nd) : shs ks = ks.map Nd.sh := by
  induction ks with
  | nil => simp [shs]
  | cons k ks ih => simp [shs, ih]

mutual
def Sh.flat : Sh → List En
  | .mk es ks => if ks.isEmpty then es else flats ks
def flats : List Sh → List En
  | [] => []
  | k :: ks => k.flat ++ flats ks
end
def Sh.height : Sh → Nat
  | .mk _ [] => 0
  | .mk _ (k :: _) => 1 + k.height
def rising : List En → Bool
  | x :: y :: l => klt x.1 y.1 && rising (y :: l)
  | _ => true
mutual
def Sh.may : Sh → Bool
  | .mk es [] => decide (es.length ≤ 8) && rising es
  | .mk es (k :: ks) => es.isEmpty && decide (2 ≤ ks.length + 1) && decide (ks.length + 1 ≤ 8) && (k.may && !k.flat.isEmpty && mays k.height ks) && rising (k.flat ++ flats ks)
def mays (h : Nat) : List Sh → Bool
  | [] => true
  | k :: ks => k.may && !k.flat.isEmpty && decide (k.height = h) && mays h ks
end
mutual
def Sh.sound : Sh → Bool → Bool
  | .mk es ks, root => (root || decide (4 ≤ es.length + ks.length)) && sounds ks
def sounds : List Sh → Bool
  | [] => true
  | k :: ks => k.sound false && sounds ks
end
mutual
def Sh.nodes : Sh → Nat
  | .mk _ ks => 1 + nodess ks
def nodess : List Sh → Nat
  | [] => 0
  | k :: ks => k.nodes + nodess ks
end

theorem Sh.flat_leaf (es : List En) : (Sh.mk es []).flat = es := by simp [Sh.flat]
theorem Sh.flat_inner (es : List En) (k : Sh) (ks : List Sh) : (Sh.mk es (k :: ks)).flat = k.flat ++ flats ks := by simp [Sh.flat, flats]
theorem flats_append (a b : List Sh) : flats (a ++ b) = flats a ++ flats b := by
  induction a with
  | nil => simp [flats]
  | cons x a ih => simp [flats, ih]
theorem flats_flatMap (a : List Sh) : flats a = a.flatMap Sh.flat := by
  induction a with
  | nil => simp [flats]
  | cons x a ih => simp [flats, ih]

theorem rising_cons (x y : En) (l : List En) : rising (x :: y :: l) = (klt x.1 y.1 && rising (y :: l)) := by simp [rising]
theorem rising_tail {x : En} {l : List En} (h : rising (x :: l) = true) : rising l = true := by
  cases l with
  | nil => rfl
  | cons y l => rw [rising_cons, Bool.and_eq_true] at h; exact h.2
/-- Rising: each one is less than the next one. -/
theorem rising_iff : ∀ (l : List En), rising l = true ↔ ∀ i x y, l[i]? = some x → l[i + 1]? = some y → klt x.1 y.1 = true
  | [] => by simp [rising]
  | [x] => by simp [rising]
  | x :: y :: l => by
    rw [rising_cons, Bool.and_eq_true, rising_iff (y :: l)]
    constructor
    · rintro ⟨h1, h2⟩ i u v hu hv
      match i with
      | 0 => simp at hu hv; subst hu; subst hv; exact h1
      | i + 1 => exact h2 i u v (by simpa using hu) (by simpa using hv)
    · intro h
      exact ⟨h 0 x y rfl rfl, fun i u v hu hv => h (i + 1) u v (by simpa using hu) (by simpa using hv)⟩
theorem rising_lt {x : En} {l : List En} (h : rising (x :: l) = true) : ∀ y ∈ l, klt x.1 y.1 = true := by
  induction l generalizing x with
  | nil => intro y hy; cases hy
  | cons z l ih =>
    rw [rising_cons, Bool.and_eq_true] at h
    intro y hy
    rcases List.mem_cons.1 hy with rfl | hy
    · exact h.1
    · exact klt_trans h.1 (ih h.2 y hy)
theorem rising_of {x : En} {l : List En} (h1 : ∀ y ∈ l, klt x.1 y.1 = true) (h2 : rising l = true) : rising (x :: l) = true := by
  cases l with
  | nil => rfl
  | cons y l => rw [rising_cons, Bool.and_eq_true]; exact ⟨h1 y (List.mem_cons_self ..), h2⟩
theorem rising_append {a b : List En} : rising (a ++ b) = true ↔ rising a = true ∧ rising b = true ∧ ∀ x ∈ a, ∀ y ∈ b, klt x.1 y.1 = true := by
  induction a with
  | nil => simp [rising]
  | cons x a ih =>
    constructor
    · intro h
      have h1 := rising_lt h
      have h2 := ih.1 (rising_tail h)
      refine ⟨rising_of (fun y hy => h1 y (List.mem_append_left _ hy)) h2.1, h2.2.1, fun u hu v hv => ?_⟩
      rcases List.mem_cons.1 hu with rfl | hu
      · exact h1 v (List.mem_append_right _ hv)
      · exact h2.2.2 u hu v hv
    · rintro ⟨h1, h2, h3⟩
      refine rising_of (fun y hy => ?_) (ih.2 ⟨rising_tail h1, h2, fun u hu => h3 u (List.mem_cons_of_mem _ hu)⟩)
      rcases List.mem_append.1 hy with hy | hy
      · exact rising_lt h1 y hy
      · exact h3 x (List.mem_cons_self ..) y hy

/-- The first key, and the last one; "" of none. -/
def firstKey (l : List En) : Key := match l.head? with | some x => x.1 | none => ByteArray.empty
def lastKey (l : List En) : Key := match l.getLast? with | some x => x.1 | none => ByteArray.empty
def Nd.cnt (n : Nd) : Nat := n.sh.flat.length
def Nd.hgt (n : Nd) : Nat := n.sh.height
def Nd.ok (n : Nd) : Prop := n.sh.may = true
theorem Nd.sh_es (n : Nd) : n.sh.es = n.es := by cases n; simp [Nd.sh, Sh.es, Nd.es]
theorem Nd.sh_kids (n : Nd) : n.sh.kids = n.kids.map Nd.sh := by cases n; simp [Nd.sh, Sh.kids, Nd.kids, shs_map]
end Go.Proofs.Ytajcmpafbcpicaa
