/-
The library's slices.Backward: its iterator.
No conditions.
-/
import Derived.Test.YtgfpcjomgmdapaaEvB
import Derived.Test.YtgfpcjomgmdapaaVcRange
import Derived.RangeFuncBox
import Derived.RangeFuncLeaves
import Derived.Shelf.Abstract
import Derived.WalkKit
import Derived.OwnWalkIn
import Derived.TacticsInMore
import Derived.LoopNIn
import Derived.LoopIn
namespace Go.Proofs.Ytgfpcjomgmdapaa
open Go Go.Vc Go.RowKit
set_option maxHeartbeats 2000000
set_option maxRecDepth 100000
attribute [local go_sem] Oper.semAt_some
/-- Numbers in a variable, read in any world. -/
theorem ints_at {c : Ctx} {W : World} {b : Nat} {l : List Int} (hW : c.w = W) (h : CellAt c b (.ints l)) : ∃ a cap, W.cell? ⟨b, 0, none⟩ = some (.slice a l.length cap) ∧ (l ≠ [] → ∃ g off, a = some ⟨g, off, none⟩ ∧ ∀ i x, l[i]? = some x → W.cell? ⟨g, off + i, none⟩ = some (.int .i64 x)) := by
  subst hW
  obtain ⟨v, T, h1, _, h3⟩ := h
  cases h3 with
  | ints l v h3 =>
    have hc : c.w.cell? ⟨b, 0, none⟩ = some v := by simp [World.cell?, h1]
    generalize hx : icells l = x at h3
    cases h3 with
    | sl0 sz a cap =>
      have : l = [] := by cases l with
        | nil => rfl
        | cons _ _ => simp [icells] at hx
      subst this
      exact ⟨a, cap, hc, fun h => absurd rfl h⟩
    | sl sz l' g off cap vf hok hcap hl hcc hr =>
      subst hx
      rw [icells_length] at hc
      refine ⟨_, cap, hc, fun _ => ⟨g, off, rfl, fun i y hy => ?_⟩⟩
      have hi : (icells l)[i]? = some [I y] := icells_get.2 ⟨y, hy, rfl⟩
      obtain ⟨g1, _, _⟩ := hcc i [I y] 0 (I y) hi rfl
      have g2 := hr i [I y] 0 (I y) hi rfl
      rw [Nat.mul_one, Nat.add_zero] at g1
      rw [g1]
      revert g2
      generalize vf i 0 = z
      intro g2
      cases g2
      rfl
    | _ => cases hx
def itBack : It := fun c0 n args cell => ∃ l : List Int, c0 = .ints l ∧ n = l.length ∧ l.length ≤ 9223372036854775807 ∧ cell = (fun _ => .ints l) ∧ args = fun i => [.int .i64 ((n : Int) - 1 - i), .int .i64 (l.getD (n - 1 - i) 0)]
theorem back_in (l : Nat) (zs : List Int) (hz : zs.length ≤ 9223372036854775807) (b : Nat) (J Jm : Nat → World → Prop) (Jx : World → Prop) (W : World)
    (hJ : ∀ i W, J i W → ∃ a cap, W.cell? ⟨b, 0, none⟩ = some (.slice a zs.length cap) ∧ (zs ≠ [] → ∃ g off, a = some ⟨g, off, none⟩ ∧ ∀ i x, zs[i]? = some x → W.cell? ⟨g, off + i, none⟩ = some (.int .i64 x)))
    (hY : ∀ i W, i < zs.length → J i W → YieldAt Fence.wide 0 Try.prog l #[.int .i64 ((zs.length : Int) - 1 - i), .int .i64 (zs.getD (zs.length - 1 - i) 0)] W fun e W' => (e = .returned (.bool true) ∧ Jm i W') ∨ (e = .returned (.bool false) ∧ Jx W'))
    (hs : ∀ i W, i < zs.length → Jm i W → J (i + 1) W) (h0 : J 0 W) :
    CallsIn Fence.wide 0 Try.prog 69 #[.func (.yield l) #[] #[], .pointer (some ⟨b, 0, none⟩)] W fun e W' => (∃ v, e = .returned v) ∧ (J zs.length W' ∨ Jx W') := by
  obtain ⟨a0, cap0, hc0, _⟩ := hJ 0 W h0
  refine callsIn_of_wp Try.func69 rfl trivial ?_ rfl
  simp only [Try.ntmps69, List.size_toArray, List.length_cons, List.length_nil, Nat.reduceAdd, Nat.reduceSub, Array.replicate_succ, Array.replicate_zero, List.push_toArray, List.append_toArray, List.nil_append, List.cons_append]
  gi_wp2
  gi_loopw [3] (fun i wr => ∃ k : Nat, k ≤ zs.length ∧ i = .int .i64 ((zs.length : Int) - 1 - k) ∧ J k wr) (fun i _ => (intOf i + 1).toNat)
  case atStart => exact ⟨0, Nat.zero_le _, by simp, h0⟩
  case round =>
    obtain ⟨k, hk, hi, hJs⟩ := hrel
    by_cases hlt : k < zs.length
    · obtain ⟨a1, cap1, hc1, hx1⟩ := hJ k wr hJs
      have hne : zs ≠ [] := by rintro rfl; simp at hlt
      obtain ⟨g1, off1, rfl, hx2⟩ := hx1 hne
      obtain ⟨p, hp⟩ : ∃ p : Nat, p = zs.length - 1 - k := ⟨_, rfl⟩
      have hpl : p < zs.length := by omega
      have e : (zs.length : Int) - 1 - k = (p : Int) := by omega
      obtain ⟨x, hx⟩ : ∃ x, zs[p]? = some x := ⟨_, List.getElem?_eq_getElem hpl⟩
      have hgd : zs.getD p 0 = x := by simp [List.getD, hx]
      have hcx := hx2 p x hx
      obtain ⟨f1, t1, as1, b1, hy, hR⟩ := hY k wr hlt hJs
      rw [e, ← hp, hgd] at hy
      rw [e] at hi
      subst hi
      have Ah : Aside (p = zs.length - 1 - k ∧ k < zs.length) := ⟨hp, hlt⟩
      clear e hp hlt hx hgd hx2 hx1
      gi_wp2
      refine ⟨rfl, hR.mono ?_⟩
      obtain ⟨hp, hlt⟩ := Ah.out
      rintro e2 W3 (⟨rfl, hJ3⟩ | ⟨rfl, hJx3⟩)
      · gi_wp2
        go_roundw
        case rel => exact ⟨k + 1, by omega, by congr 1; omega, hs k W3 hlt hJ3⟩
        case measure => simp [intOf]; omega
      · gi_wp2
        refine bodyPost_ret (results_none rfl _ _ _) rfl ?_
        exact ⟨⟨_, rfl⟩, .inr hJx3⟩
    · obtain rfl : k = zs.length := by omega
      have e : (zs.length : Int) - 1 - zs.length = -1 := by omega
      rw [e] at hi
      subst hi
      gi_wp2
      go_end0
      exact ⟨⟨_, rfl⟩, .inl hJs⟩
theorem back_ok : ∀ c0 n args cell, itBack c0 n args cell → cell 0 = c0 ∧ IterC Try.prog 69 n args cell := by
  rintro c0 n args cell ⟨l, rfl, rfl, hl, rfl, rfl⟩
  refine ⟨rfl, ?_⟩
  intro b lr J Jm Jx W hJ hJm hY hset hsame h0
  exact back_in lr l hl b J Jm Jx W (fun i W h => by obtain ⟨c, hc, hcell⟩ := hJ i W h; exact ints_at hc hcell) hY (fun i W hi h => hsame i W hi h rfl) h0
theorem back_enter : ∀ args w, (callFunc 69 args).run Try.prog w = .ok (.enter 69 args) w := enters_of Try.func69 (by kernel_rfl) rfl
def c_slices_Backward : Con := ⟨1, 0, true, fun xs hs _ K => match xs with
  | [.ints l] => hs = [] ∧ K (.clo 69 0) [.cells [.ints l]] []
  | _ => False⟩
theorem k_slices_Backward : Keeps' Try.prog 55 c_slices_Backward := by
  refine keeps_of_vc mix TyT_ok cok_nil Try.func55 rfl rfl rfl ?_
  intro aargs hs Fs K h
  simp only [c_slices_Backward] at h
  split at h
  case h_2 => exact h.elim
  rename_i l
  obtain ⟨rfl, h⟩ := h
  repeat' (first
    | ((conv => whnf); (first
      | refine brK_dec (fun _ => ?_) (fun _ => ?_)
      | refine brK_ndec (fun _ => ?_) (fun _ => ?_)
      | refine brK_not (fun _ => ?_) (fun _ => ?_)
      | refine brK_in (fun _ => ?_) (fun _ => ?_)
      | refine And.intro (by first | exact rfl | exact ⟨_, rfl, rfl⟩ | exact ⟨rfl, rfl, rfl⟩ | exact of_decide_eq_true rfl | exact trivial | assumption | omega | (show (_ ≤ _ ∧ _ ≤ _); omega) | (simp; omega) | exact ⟨by first | omega | (simp; omega), _, rfl, rfl⟩) ?_
      | refine Both.mk ?_ ?_
      | refine Exists.intro _ (And.intro rfl ?_)
      | refine fun _ => ?_))
    | exact rfl)
  exact h
end Go.Proofs.Ytgfpcjomgmdapaa
