/- Plain: the values of the program as trees, and which one is ahead. No conditions. -/
import Derived.Test.YtajcmpafbcpicaaOrd
set_option linter.unusedVariables false
set_option linter.unusedSimpArgs false
namespace Go.Proofs.Ytajcmpafbcpicaa

inductive V where
  | mk (kind : Int) (b : Bool) (n : Int) (t : ByteArray) (l : List V) (o : List (ByteArray × V))

def V.kind : V → Int | .mk k .. => k
def V.bool : V → Bool | .mk _ b .. => b
def V.num : V → Int | .mk _ _ n .. => n
def V.text : V → ByteArray | .mk _ _ _ t .. => t
def V.list : V → List V | .mk _ _ _ _ l _ => l
def V.obj : V → List (ByteArray × V) | .mk _ _ _ _ _ o => o

def cmpI (a b : Int) : Int := if a < b then -1 else if b < a then 1 else 0
def cmpT (a b : Key) : Int := if klt a b then -1 else if klt b a then 1 else 0
def tr (b : Bool) : Int := if b then 1 else 0

mutual
def V.cmp : V → V → Int
  | .mk k b n t l o, y =>
    if k ≠ y.kind then cmpI k y.kind
    else if k = 2 then tr b - tr y.bool
    else if k = 3 then cmpI n y.num
    else if k = 4 then cmpT t y.text
    else if k = 5 then cmpL l y.list
    else if k = 6 then cmpO o y.obj
    else 0
def cmpL : List V → List V → Int
  | [], [] => 0
  | [], _ :: _ => -1
  | _ :: _, [] => 1
  | x :: xs, y :: ys => if x.cmp y ≠ 0 then x.cmp y else cmpL xs ys
def cmpO : List (ByteArray × V) → List (ByteArray × V) → Int
  | [], [] => 0
  | [], _ :: _ => -1
  | _ :: _, [] => 1
  | (k, x) :: xs, (j, y) :: ys => if cmpT k j ≠ 0 then cmpT k j else if x.cmp y ≠ 0 then x.cmp y else cmpO xs ys
end

theorem cmpI_self (a : Int) : cmpI a a = 0 := by simp [cmpI]
theorem cmpI_eq (a b : Int) : cmpI a b = 0 ↔ a = b := by unfold cmpI; split <;> (try split) <;> omega
theorem cmpT_self (a : Key) : cmpT a a = 0 := by simp [cmpT, klt_irrefl]
theorem cmpT_eq (a b : Key) : cmpT a b = 0 ↔ a = b := by
  unfold cmpT
  cases h : klt a b with
  | true =>
    simp only [if_true]
    constructor
    · intro e; omega
    · rintro rfl; rw [klt_irrefl] at h; cases h
  | false =>
    cases k : klt b a with
    | true =>
      simp only [if_true, Bool.false_eq_true, if_false]
      constructor
      · intro e; omega
      · rintro rfl; rw [klt_irrefl] at k; cases k
    | false => simp [klt_total h k]

mutual
theorem V.cmp_self : ∀ x : V, x.cmp x = 0
  | .mk k b n t l o => by
    have hl := cmpL_self l
    have ho := cmpO_self o
    simp only [V.cmp, V.kind, V.bool, V.num, V.text, V.list, V.obj, hl, ho, cmpI_self, cmpT_self]
    simp
theorem cmpL_self : ∀ l : List V, cmpL l l = 0
  | [] => by simp [cmpL]
  | x :: xs => by simp [cmpL, V.cmp_self x, cmpL_self xs]
theorem cmpO_self : ∀ l : List (ByteArray × V), cmpO l l = 0
  | [] => by simp [cmpO]
  | (k, x) :: xs => by simp [cmpO, V.cmp_self x, cmpO_self xs, cmpT_self]
end

/-- What a value is made of is not too long for memory. -/
inductive V.Fits : V → Prop
  | mk {k : Int} {b : Bool} {n : Int} {t : ByteArray} {l : List V} {o : List (ByteArray × V)} (ht : t.size ≤ 140737488355328) (hl : l.length * 88 ≤ 140737488355328) (ho : o.length * 104 ≤ 140737488355328)
      (hk : ∀ kx, kx ∈ o → kx.1.size ≤ 140737488355328) (hll : ∀ x, x ∈ l → V.Fits x) (hoo : ∀ kx, kx ∈ o → V.Fits kx.2) : V.Fits (.mk k b n t l o)
theorem V.Fits.text {x : V} (h : x.Fits) : x.text.size ≤ 140737488355328 := by cases h; assumption
theorem V.Fits.llen {x : V} (h : x.Fits) : x.list.length * 88 ≤ 140737488355328 := by cases h; assumption
theorem V.Fits.olen {x : V} (h : x.Fits) : x.obj.length * 104 ≤ 140737488355328 := by cases h; assumption
theorem V.Fits.elem {x y : V} (h : x.Fits) (hy : y ∈ x.list) : y.Fits := by cases h with | mk _ _ _ _ hll _ => exact hll _ hy
theorem V.Fits.memb {x : V} (h : x.Fits) {ky : ByteArray × V} (hy : ky ∈ x.obj) : ky.1.size ≤ 140737488355328 ∧ ky.2.Fits := by cases h with | mk _ _ _ hk _ hoo => exact ⟨hk _ hy, hoo _ hy⟩
end Go.Proofs.Ytajcmpafbcpicaa
