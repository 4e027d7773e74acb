/-
Chains of links: what a chain is, in plain Lean.
No conditions.
-/
import Derived.Test.YtdljacpmoaeepaaDoorLkA
namespace Go.Proofs.YtdljacpmoaeepaaDoor
open Go Go.Vc
set_option maxHeartbeats 1000000
set_option maxRecDepth 10000
structure EpD where
  n : Int
  c : List Int
  k : List Int
  r : Int
structure LkD where
  e : EpD
  d : Int
  s : List Int
  m : Int
def EpD.agg (e : EpD) : AV := .agg [I e.n, .ints e.c, .ints e.k, I e.r]
def LkD.row (x : LkD) : List AV := [I x.e.n, .ints x.e.c, .ints x.e.k, I x.e.r, I x.d, .ints x.s, I x.m]
def EpD.small (e : EpD) : Prop := e.c.length < 2000000 ∧ e.k.length < 2000000
def LkD.small (x : LkD) : Prop := x.e.small ∧ x.s.length < 2000000
def EpD.ok (e : EpD) : Bool := EpV e.n e.c e.k e.r
def lkD (e : EpD) (x : LkD) : Bool := lkV e.n e.c e.k e.r x.e.n x.e.c x.e.k x.e.r x.d x.s x.m
def lastE (e : EpD) (l : List LkD) : EpD := l.foldl (fun _ x => x.e) e
def chainV : EpD → List LkD → Bool
  | _, [] => true
  | e, x :: l => lkD e x && chainV x.e l
def accV (e : EpD) (l : List LkD) : Bool := e.ok && chainV e l
/-- How many links are accepted. -/
def reachN : EpD → List LkD → Nat
  | _, [] => 0
  | e, x :: l => if lkD e x = true then reachN x.e l + 1 else 0
theorem lastE_nil (e : EpD) : lastE e [] = e := rfl
theorem lastE_cons (e : EpD) (x : LkD) (l : List LkD) : lastE e (x :: l) = lastE x.e l := rfl
theorem lastE_app (e : EpD) (a b : List LkD) : lastE e (a ++ b) = lastE (lastE e a) b := by simp [lastE]
theorem chainV_app : ∀ (a : List LkD) (e : EpD) (b : List LkD), chainV e (a ++ b) = (chainV e a && chainV (lastE e a) b)
  | [], e, b => by simp [chainV, lastE]
  | x :: a, e, b => by
    rw [List.cons_append, chainV, chainV, chainV_app a x.e b, lastE_cons, Bool.and_assoc]
theorem lastE_take {e : EpD} {l : List LkD} {i : Nat} {x : LkD} (hx : l[i]? = some x) : lastE e (l.take (i + 1)) = x.e := by
  rw [List.take_add_one, hx, lastE_app]
  rfl
theorem chainV_take {e : EpD} {l : List LkD} {i : Nat} {x : LkD} (hx : l[i]? = some x) : chainV e (l.take (i + 1)) = (chainV e (l.take i) && lkD (lastE e (l.take i)) x) := by
  rw [List.take_add_one, hx, chainV_app]
  simp [chainV]
theorem chainV_no {e : EpD} {l : List LkD} {i : Nat} {x : LkD} (hx : l[i]? = some x) (h : lkD (lastE e (l.take i)) x = false) : chainV e l = false := by
  have h1 := chainV_take (e := e) hx
  rw [h, Bool.and_false] at h1
  have h2 := chainV_app (l.take (i + 1)) e (l.drop (i + 1))
  rw [List.take_append_drop, h1, Bool.false_and] at h2
  exact h2
theorem reachN_le : ∀ (l : List LkD) (e : EpD), reachN e l ≤ l.length
  | [], _ => Nat.le_refl _
  | x :: l, e => by
    unfold reachN
    split
    · have := reachN_le l x.e; simp; omega
    · omega
theorem reachN_all : ∀ (l : List LkD) (e : EpD), chainV e l = true → reachN e l = l.length
  | [], _, _ => rfl
  | x :: l, e, h => by
    simp only [chainV, Bool.and_eq_true] at h
    rw [reachN, if_pos h.1, reachN_all l x.e h.2]
    rfl
theorem reachN_at : ∀ (l : List LkD) (e : EpD) (i : Nat) (x : LkD), l[i]? = some x → chainV e (l.take i) = true → lkD (lastE e (l.take i)) x = false → reachN e l = i
  | [], _, i, x, h, _, _ => by simp at h
  | y :: l, e, 0, x, h, h1, h2 => by
    simp at h
    subst h
    rw [reachN, if_neg (by rw [show lkD e y = false from h2]; simp)]
  | y :: l, e, i + 1, x, h, h1, h2 => by
    rw [List.take_succ_cons] at h1 h2
    rw [chainV, Bool.and_eq_true] at h1
    rw [reachN, if_pos h1.1, reachN_at l y.e i x (by simpa using h) h1.2 h2]
theorem chain_prefix : ∀ (l : List LkD) (e : EpD) (k : Nat), k ≤ l.length → (chainV e (l.take k) = true ↔ k ≤ reachN e l)
  | l, e, 0, _ => by simp [chainV]
  | [], e, k + 1, h => by simp at h
  | x :: l, e, k + 1, h => by
    rw [List.take_succ_cons, chainV, Bool.and_eq_true, chain_prefix l x.e k (by simpa using h), reachN]
    cases hx : lkD e x
    · simp
    · simp
theorem chain_num : ∀ (l : List LkD) (e : EpD), chainV e l = true → (lastE e l).n = e.n + l.length
  | [], e, _ => by simp [lastE]
  | x :: l, e, h => by
    simp only [chainV, Bool.and_eq_true] at h
    have h1 := chain_num l x.e h.2
    have h2 := h.1
    unfold lkD lkV at h2
    simp only [Bool.and_eq_true, decide_eq_true_eq] at h2
    rw [lastE_cons, h1, h2.2.2.1]
    simp only [List.length_cons]
    omega
theorem chain_ok : ∀ (l : List LkD) (e : EpD), e.ok = true → chainV e l = true → (lastE e l).ok = true
  | [], e, h, _ => h
  | x :: l, e, h, h1 => by
    simp only [chainV, Bool.and_eq_true] at h1
    have h2 := h1.1
    unfold lkD lkV at h2
    simp only [Bool.and_eq_true] at h2
    exact chain_ok l x.e h2.2.1 h1.2
end Go.Proofs.YtdljacpmoaeepaaDoor
