/-
The program's widths of the levels of a tree of digests: its iterator.
No conditions.
-/
import Derived.Test.YtlhbdhccddadaaaDoorEvB
import Derived.Test.YtlhbdhccddadaaaDoorVcRange
import Derived.RangeFuncBox
import Derived.RangeFuncLeaves
import Derived.Shelf.Abstract
import Derived.WalkKit
import Derived.OwnWalkIn
import Derived.TacticsInMore
import Derived.LoopNIn
import Derived.LoopIn
namespace Go.Proofs.YtlhbdhccddadaaaDoor
open Go Go.Vc Go.RowKit
set_option maxHeartbeats 2000000
set_option maxRecDepth 100000
attribute [local go_sem] Oper.semAt_some
/-- The widths: halved, rounded up, down to one. -/
def wd (s : Int) : Nat → Int
  | 0 => s
  | i + 1 => if 1 < wd s i then (wd s i + 1) / 2 else wd s i
/-- The number of the widths. -/
def Wn (s : Int) (n : Nat) : Prop := 1 ≤ n ∧ wd s (n - 1) = 1 ∧ (∀ i, i + 1 < n → 1 < wd s i) ∧ s ≤ 1000000
theorem int_at {c : Ctx} {W : World} {b : Nat} {z : Int} (hW : c.w = W) (h : CellAt c b (I z)) : (∃ T, W.heap[b]? = some (.cells #[.int .i64 z] T (0, 0))) ∧ W.cell? ⟨b, 0, none⟩ = some (.int .i64 z) := by
  subst hW
  obtain ⟨v, T, h1, _, h3⟩ := h
  cases h3
  exact ⟨⟨T, h1⟩, by simp [World.cell?, h1]⟩
theorem wd_le (s : Int) : ∀ i, wd s i ≤ s
  | 0 => Int.le_refl _
  | i + 1 => by
    have := wd_le s i
    simp only [wd]
    split <;> omega
theorem setCell_row {W : World} {b : Nat} {u v : Value} {T : TypeId} (h : W.heap[b]? = some (.cells #[u] T (0, 0))) : W.setCell ⟨b, 0, none⟩ v = W.setRow b #[v] := by
  obtain ⟨hb, he⟩ := Array.getElem?_eq_some_iff.1 h
  simp only [World.setCell, World.setRow]
  congr 1
  apply Array.ext
  · simp
  · intro i h1 h2
    simp only [Array.getElem_modify]
    by_cases e : b = i
    · subst e
      rw [if_pos rfl, if_pos rfl, he]
      simp
    · rw [if_neg e, if_neg e]
def cellN (b : Nat) (W : World) : Nat := match W.cell? ⟨b, 0, none⟩ with
  | some (.int _ z) => z.toNat
  | _ => 0
def itWid : It := fun c0 n args cell => ∃ s : Int, c0 = I s ∧ Wn s n ∧ cell = (fun i => I (wd s i)) ∧ args = fun i => [.int .i64 (wd s i)]
theorem wid_in (l n : Nat) (s : Int) (hn : Wn s n) (b : Nat) (J Jm : Nat → World → Prop) (Jx : World → Prop) (W : World)
    (hJ : ∀ i W, J i W → W.cell? ⟨b, 0, none⟩ = some (.int .i64 (wd s i)))
    (hJm : ∀ i W, i < n → Jm i W → (∃ T, W.heap[b]? = some (.cells #[.int .i64 (wd s i)] T (0, 0))) ∧ W.cell? ⟨b, 0, none⟩ = some (.int .i64 (wd s i)))
    (hY : ∀ i W, i < n → J i W → YieldAt Fence.wide 0 Tryd.prog l #[.int .i64 (wd s i)] W fun e W' => (e = .returned (.bool true) ∧ Jm i W') ∨ (e = .returned (.bool false) ∧ Jx W'))
    (hset : ∀ i W, i < n → Jm i W → J (i + 1) (W.setRow b #[.int .i64 (wd s (i + 1))]))
    (hsame : ∀ i W, i < n → Jm i W → wd s (i + 1) = wd s i → J (i + 1) W) (h0 : J 0 W) :
    CallsIn Fence.wide 0 Tryd.prog 101 #[.func (.yield l) #[] #[], .pointer (some ⟨b, 0, none⟩)] W fun e W' => (∃ v, e = .returned v) ∧ (J n W' ∨ Jx W') := by
  have hc0 := hJ 0 W h0
  refine callsIn_of_wp Tryd.func101 rfl trivial ?_ rfl
  simp only [Tryd.ntmps101, List.size_toArray, List.length_cons, List.length_nil, Nat.reduceAdd, Nat.reduceSub, Array.replicate_succ, Array.replicate_zero, List.push_toArray, List.append_toArray, List.nil_append, List.cons_append]
  gi_wp2
  gi_loopw [] (fun wr => ∃ k : Nat, k < n ∧ J k wr) (fun wr => cellN b wr)
  case atStart => exact ⟨0, hn.1, h0⟩
  case round =>
    obtain ⟨k, hk, hJs⟩ := hrel
    have hc1 := hJ k wr hJs
    obtain ⟨f1, t1, as1, b1, hy, hR⟩ := hY k wr hk hJs
    obtain ⟨x, hx⟩ : ∃ x, x = wd s k := ⟨_, rfl⟩
    rw [← hx] at hc1 hy
    have Ah : Aside (k < n ∧ x = wd s k ∧ cellN b wr = x.toNat) := ⟨hk, hx, by simp [cellN, hc1]⟩
    clear hk hx hJs
    gi_wp2
    refine ⟨rfl, hR.mono ?_⟩
    rintro e2 W3 (⟨rfl, hJ3⟩ | ⟨rfl, hJx3⟩)
    · obtain ⟨hk, hx, hcn⟩ := Ah.out
      obtain ⟨⟨T, hrow⟩, hc3⟩ := hJm k W3 hk hJ3
      rw [← hx] at hrow hc3
      have hfz : W3.frozen? ⟨b, 0, none⟩ = false := by simp [World.frozen?, hrow]
      by_cases h1 : 1 < x
      · have q1 : (1 : Int) < x := h1
        have hw := wd_le s k
        have q2 : x + 1 ≤ 9223372036854775807 := by have := hn.2.2.2; omega
        have q3 : -9223372036854775808 ≤ x + 1 := by omega
        have hlast : k + 1 < n := by
          by_cases e : k = n - 1
          · have := hn.2.1
            rw [← e, ← hx] at this
            omega
          · omega
        have hnext : wd s (k + 1) = (x + 1) / 2 := by
          show (if 1 < wd s k then (wd s k + 1) / 2 else wd s k) = _
          rw [← hx, if_pos h1]
        gi_wp2
        case roundEnd =>
          have h5 := hset k W3 hk hJ3
          rw [hnext] at h5
          rw [← hx, hcn, setCell_row hrow]
          refine ⟨⟨k + 1, hlast, h5⟩, ?_⟩
          have h6 := hJ (k + 1) _ h5
          rw [hnext] at h6
          simp only [cellN, h6]
          omega
        all_goals (exfalso; simp_all)
      · have hJn : J n W3 := by
          have hlast : k = n - 1 := by
            by_cases e : k + 1 < n
            · have := hn.2.2.1 k e
              omega
            · omega
          have hnext : wd s (k + 1) = wd s k := by
            show (if 1 < wd s k then (wd s k + 1) / 2 else wd s k) = _
            rw [← hx, if_neg h1]
          have hJn := hsame k W3 hk hJ3 hnext
          have en : k + 1 = n := by have := hn.1; omega
          rw [en] at hJn
          exact hJn
        gi_wp2
        go_end0
        exact ⟨⟨_, rfl⟩, .inl hJn⟩
    · gi_wp2
      go_end0
      exact ⟨⟨_, rfl⟩, .inr hJx3⟩
theorem wid_ok : ∀ c0 n args cell, itWid c0 n args cell → cell 0 = c0 ∧ IterC Tryd.prog 101 n args cell := by
  rintro c0 n args cell ⟨s, rfl, hn, rfl, rfl⟩
  refine ⟨rfl, ?_⟩
  intro b lr J Jm Jx W hJ hJm hY hset hsame h0
  exact wid_in lr n s hn b J Jm Jx W (fun i W h => by obtain ⟨c, hc, hcell⟩ := hJ i W h; exact (int_at hc hcell).2) (fun i W hi h => by obtain ⟨c, hc, hcell⟩ := hJm i W hi h; exact int_at hc hcell) hY
    (fun i W hi h => by
      obtain ⟨c, hc, hcell⟩ := hJm i W hi h
      obtain ⟨⟨T, hrow⟩, _⟩ := int_at hc hcell
      exact hset i W _ _ T hi h hrow rfl (fun c => .val _))
    (fun i W hi h e => hsame i W hi h (by simp only [e])) h0
theorem wid_enter : ∀ args w, (callFunc 101 args).run Tryd.prog w = .ok (.enter 101 args) w := enters_of Tryd.func101 (by kernel_rfl) rfl
def c_impl_widths : Con := ⟨1, 0, true, fun xs hs _ K => match xs with
  | [.val (.int .i64 s)] => hs = [] ∧ K (.clo 101 0) [.cells [I s]] []
  | _ => False⟩
theorem k_impl_widths : Keeps' Tryd.prog 95 c_impl_widths := by
  refine keeps_of_vc mix TyT_ok cok_nil Tryd.func95 rfl rfl rfl ?_
  intro aargs hs Fs K h
  simp only [c_impl_widths] at h
  split at h
  case h_2 => exact h.elim
  rename_i s
  obtain ⟨rfl, h⟩ := h
  repeat' (first
    | ((conv => whnf); (first
      | refine brK_dec (fun _ => ?_) (fun _ => ?_)
      | refine brK_ndec (fun _ => ?_) (fun _ => ?_)
      | refine brK_not (fun _ => ?_) (fun _ => ?_)
      | refine brK_in (fun _ => ?_) (fun _ => ?_)
      | refine And.intro (by first | exact rfl | exact ⟨_, rfl, rfl⟩ | exact ⟨rfl, rfl, rfl⟩ | exact of_decide_eq_true rfl | exact trivial | assumption | omega | (show (_ ≤ _ ∧ _ ≤ _); omega) | (simp; omega) | exact ⟨by first | omega | (simp; omega), _, rfl, rfl⟩) ?_
      | refine Both.mk ?_ ?_
      | refine Exists.intro _ (And.intro rfl ?_)
      | refine fun _ => ?_))
    | exact rfl)
  exact h
end Go.Proofs.YtlhbdhccddadaaaDoor
