/-
Ledgers: the program's book.
No conditions.
-/
import Derived.Test.YthplhhilhfpcaaaLgB2
namespace Go.Proofs.Ythplhhilhfpcaaa
open Go Go.Vc
set_option maxHeartbeats 4000000
set_option maxRecDepth 10000
def c_impl_LedgerApply : Con := ⟨1, 0, false, fun xs hs _ K => match xs with
  | [.agg [.ints b, .val (.int .i64 fe)], .agg [.val (.int .i64 f), .val (.int .i64 t), .val (.int .i64 s), .val (.int .i64 e)]] => hs = [] ∧ b.length < 2000000 ∧
    Both (roomV b fe = false → K (.tup [.agg [.val (.slice none 0 0), I 0], B false]) [] []) (roomV b fe = true → ∀ l g d, applyP b fe f t s e = (l, g, d) → l.length = 6 → K (.tup [.agg [.own 0, I g], B d]) [.iarr l] [])
  | _ => False⟩
theorem applyP_len {b l : List Int} {fe f t s e g : Int} {d : Bool} (h : applyP b fe f t s e = (l, g, d)) : l.length = b.length := by
  unfold applyP at h
  split at h <;> (simp only [Prod.mk.injEq] at h; rw [← h.1]; try simp)
theorem k_impl_LedgerApply : Keeps' Try.prog 18 c_impl_LedgerApply := by
  refine keeps_of_vc mix TyT_ok (cok_cons k_impl_LedgerValid Try.func51 rfl rfl (cok_cons k_impl_openBook Try.func52 rfl rfl (cok_cons k_impl_book_apply Try.func53 rfl rfl (cok_cons k_impl_book_ledger Try.func54 rfl rfl cok_nil)))) Try.func18 rfl rfl rfl ?_
  intro aargs hs Fs K h
  simp only [c_impl_LedgerApply] at h
  split at h
  case h_2 => exact h.elim
  rename_i b fe f t s e
  obtain ⟨rfl, hl, h⟩ := h
  cases hv : ledV b fe
  · repeat' (first
      | ((conv => whnf); (first
        | refine brK_dec (fun _ => ?_) (fun _ => ?_)
        | refine brK_ndec (fun _ => ?_) (fun _ => ?_)
        | refine brK_not (fun _ => ?_) (fun _ => ?_)
        | refine brK_in (fun _ => ?_) (fun _ => ?_)
        | refine And.intro (by first | exact rfl | exact ⟨_, rfl, rfl⟩ | exact ⟨rfl, rfl, rfl⟩ | exact of_decide_eq_true rfl | exact trivial | assumption | omega | (show (_ ≤ _ ∧ _ ≤ _); omega) | (simp; omega) | exact ⟨by first | omega | (simp; omega), _, rfl, rfl⟩) ?_
        | refine Both.mk ?_ ?_
        | refine Exists.intro _ (And.intro rfl ?_)
        | refine fun _ => ?_))
      | exact rfl)
    · exact h.l (by simp [roomV, hv])
    all_goals (exfalso; simp_all; done)
  · obtain ⟨h6, hf0, hf1, hx⟩ := ledV_out hv
    obtain ⟨b0, b1, b2, b3, b4, b5, rfl⟩ := len6 h6
    repeat' (first
      | ((conv => whnf); (first
        | refine brK_dec (fun _ => ?_) (fun _ => ?_)
        | refine brK_ndec (fun _ => ?_) (fun _ => ?_)
        | refine brK_not (fun _ => ?_) (fun _ => ?_)
        | refine brK_in (fun _ => ?_) (fun _ => ?_)
        | refine And.intro (by first | exact rfl | exact ⟨_, rfl, rfl⟩ | exact ⟨rfl, rfl, rfl⟩ | exact of_decide_eq_true rfl | exact trivial | assumption | omega | (show (_ ≤ _ ∧ _ ≤ _); omega) | (simp; omega) | exact ⟨by first | omega | (simp; omega), _, rfl, rfl⟩) ?_
        | refine Both.mk ?_ ?_
        | refine Exists.intro _ (And.intro rfl ?_)
        | refine fun _ => ?_))
      | exact rfl)
    · exfalso; simp_all; done
    · exact h.l (by simp [roomV, hv]; omega)
    · exact h.r (by simp [roomV, hv]; omega) _ _ _ (by assumption) rfl
theorem k_spec_LedgerApply : Keeps' Try.prog 19 c_impl_LedgerApply := by
  refine keeps_of_vc mix TyT_ok (cok_cons k_spec_l31Room Try.func55 rfl rfl (cok_cons k_spec_l31Apply Try.func56 rfl rfl cok_nil)) Try.func19 rfl rfl rfl ?_
  intro aargs hs Fs K h
  simp only [c_impl_LedgerApply] at h
  split at h
  case h_2 => exact h.elim
  rename_i b fe f t s e
  obtain ⟨rfl, hl, h⟩ := h
  cases hv : roomV b fe
  · repeat' (first
      | ((conv => whnf); (first
        | refine brK_dec (fun _ => ?_) (fun _ => ?_)
        | refine brK_ndec (fun _ => ?_) (fun _ => ?_)
        | refine brK_not (fun _ => ?_) (fun _ => ?_)
        | refine brK_in (fun _ => ?_) (fun _ => ?_)
        | refine And.intro (by first | exact rfl | exact ⟨_, rfl, rfl⟩ | exact ⟨rfl, rfl, rfl⟩ | exact of_decide_eq_true rfl | exact trivial | assumption | omega | (show (_ ≤ _ ∧ _ ≤ _); omega) | (simp; omega) | exact ⟨by first | omega | (simp; omega), _, rfl, rfl⟩) ?_
        | refine Both.mk ?_ ?_
        | refine Exists.intro _ (And.intro rfl ?_)
        | refine fun _ => ?_))
      | exact rfl)
    · exact h.l hv
    all_goals (exfalso; simp_all; done)
  · have hled : ledV b fe = true := by simp [roomV] at hv; exact hv.1
    repeat' (first
      | ((conv => whnf); (first
        | refine brK_dec (fun _ => ?_) (fun _ => ?_)
        | refine brK_ndec (fun _ => ?_) (fun _ => ?_)
        | refine brK_not (fun _ => ?_) (fun _ => ?_)
        | refine brK_in (fun _ => ?_) (fun _ => ?_)
        | refine And.intro (by first | exact rfl | exact ⟨_, rfl, rfl⟩ | exact ⟨rfl, rfl, rfl⟩ | exact of_decide_eq_true rfl | exact trivial | assumption | omega | (show (_ ≤ _ ∧ _ ≤ _); omega) | (simp; omega) | exact ⟨by first | omega | (simp; omega), _, rfl, rfl⟩) ?_
        | refine Both.mk ?_ ?_
        | refine Exists.intro _ (And.intro rfl ?_)
        | refine fun _ => ?_))
      | exact rfl)
    · exfalso; simp_all; done
    · rename_i l g d ha
      exact h.r hv _ _ _ ha ((applyP_len ha).trans (ledV_out hled).1)
def c_laws_sameInts : Con := ⟨0, 0, false, fun xs hs _ K => match xs with
  | [.ints a, .ints b] => hs = [] ∧ a.length < 2000000 ∧ b.length < 2000000 ∧ K (B (decide (a = b))) [] []
  | _ => False⟩
theorem eq_take' {a b : List Int} {i : Nat} {x y : Int} (h : a.take i = b.take i) (hx : a[i]? = some x) (hy : b[i]? = some y) (e : x = y) : a.take (i + 1) = b.take (i + 1) := by
  rw [List.take_add_one, List.take_add_one, h, hx, hy, e]
theorem k_laws_sameInts : Keeps' Try.prog 37 c_laws_sameInts := by
  refine keeps_of_vc mix TyT_ok cok_nil Try.func37 rfl rfl rfl ?_
  intro aargs hs Fs K h
  simp only [c_laws_sameInts] at h
  split at h
  case h_2 => exact h.elim
  rename_i a b
  obtain ⟨rfl, ha, hb, h⟩ := h
  have no : ∀ {c : Bool}, decide (a = b) = c → K (B c) [] [] := fun e => by rw [← e]; exact h
  repeat' (first
    | ((conv => whnf); (first
      | refine brK_dec (fun _ => ?_) (fun _ => ?_)
      | refine brK_ndec (fun _ => ?_) (fun _ => ?_)
      | refine brK_not (fun _ => ?_) (fun _ => ?_)
      | refine brK_in (fun _ => ?_) (fun _ => ?_)
      | refine And.intro (by first | exact rfl | exact ⟨_, rfl, rfl⟩ | exact ⟨rfl, rfl, rfl⟩ | exact of_decide_eq_true rfl | exact trivial | assumption | omega | (show (_ ≤ _ ∧ _ ≤ _); omega) | (simp; omega) | exact ⟨by first | omega | (simp; omega), _, rfl, rfl⟩) ?_
      | refine Both.mk ?_ ?_
      | refine Exists.intro _ (And.intro rfl ?_)
      | refine fun _ => ?_))
    | exact rfl)
  · rename_i h1
    exact no (by
      have : a ≠ b := by rintro rfl; exact h1 rfl
      simp [this])
  rename_i h1
  have hlen : a.length = b.length := by omega
  refine loop_in (ι := Nat) (fun i => mkS 26 [(0, .ints a), (1, .ints b), (4, B false), (5, I i)] [] Fs) (fun i => i ≤ a.length ∧ a.take i = b.take i) (fun i => a.length - i) 0 [] ⟨Nat.zero_le _, by simp⟩ ?_ ?_
  · repeat' (first
      | ((conv => whnf); (first
        | refine brK_dec (fun _ => ?_) (fun _ => ?_)
        | refine brK_ndec (fun _ => ?_) (fun _ => ?_)
        | refine brK_not (fun _ => ?_) (fun _ => ?_)
        | refine brK_in (fun _ => ?_) (fun _ => ?_)
        | refine And.intro (by first | exact rfl | exact ⟨_, rfl, rfl⟩ | exact ⟨rfl, rfl, rfl⟩ | exact of_decide_eq_true rfl | exact trivial | assumption | omega | (show (_ ≤ _ ∧ _ ≤ _); omega) | (simp; omega) | exact ⟨by first | omega | (simp; omega), _, rfl, rfl⟩) ?_
        | refine Both.mk ?_ ?_
        | refine Exists.intro _ (And.intro rfl ?_)
        | refine fun _ => ?_))
      | exact rfl)
  intro i ⟨hi, hall⟩
  repeat' (first
    | ((conv => whnf); (first
      | refine draw_plan (id := 6) [] [] (.take 0 (.take 1 (.take 2 (.take 3 (.take 4 (.take 5 (.take 6 (.take 7 (.take 8 .done))))))))) (by kernel_rfl) (by kernel_rfl) ?_
      | refine brK_dec (fun _ => ?_) (fun _ => ?_)
      | refine brK_ndec (fun _ => ?_) (fun _ => ?_)
      | refine brK_not (fun _ => ?_) (fun _ => ?_)
      | refine brK_in (fun _ => ?_) (fun _ => ?_)
      | refine And.intro (by first | exact rfl | exact ⟨_, rfl, rfl⟩ | exact ⟨rfl, rfl, rfl⟩ | exact of_decide_eq_true rfl | exact trivial | assumption | omega | (show (_ ≤ _ ∧ _ ≤ _); omega) | (simp; omega) | exact ⟨by first | omega | (simp; omega), _, rfl, rfl⟩) ?_
      | refine Both.mk ?_ ?_
      | refine Exists.intro _ (And.intro rfl ?_)
      | refine fun _ => ?_))
    | exact rfl)
  · rename_i hil x hx y hy e
    refine no ?_
    have : a ≠ b := by
      rintro rfl
      have hx' : a[i]? = some x := hx
      have hy' : a[i]? = some y := hy
      rw [hx'] at hy'
      exact e (Option.some.inj hy')
    simp [this]
  · rename_i hil x hx y hy e
    refine ⟨i + 1, [], ⟨by omega, eq_take' hall hx hy (by simpa using e)⟩, by omega, ?_⟩
    repeat' (first
      | ((conv => whnf); (first
        | refine brK_dec (fun _ => ?_) (fun _ => ?_)
        | refine brK_ndec (fun _ => ?_) (fun _ => ?_)
        | refine brK_not (fun _ => ?_) (fun _ => ?_)
        | refine brK_in (fun _ => ?_) (fun _ => ?_)
        | refine And.intro (by first | exact rfl | exact ⟨_, rfl, rfl⟩ | exact ⟨rfl, rfl, rfl⟩ | exact of_decide_eq_true rfl | exact trivial | assumption | omega | (show (_ ≤ _ ∧ _ ≤ _); omega) | (simp; omega) | exact ⟨by first | omega | (simp; omega), _, rfl, rfl⟩) ?_
        | refine Both.mk ?_ ?_
        | refine Exists.intro _ (And.intro rfl ?_)
        | refine fun _ => ?_))
      | exact rfl)
  · rename_i hil
    rw [List.take_of_length_le (by omega), List.take_of_length_le (by omega)] at hall
    exact no (by simp [hall])
def c_laws_sameLedger : Con := ⟨0, 0, false, fun xs hs _ K => match xs with
  | [.agg [.ints a, .val (.int .i64 f)], .agg [.ints b, .val (.int .i64 g)]] => hs = [] ∧ a.length < 2000000 ∧ b.length < 2000000 ∧ K (B (decide (f = g ∧ a = b))) [] []
  | _ => False⟩
theorem k_laws_sameLedger : Keeps' Try.prog 20 c_laws_sameLedger := by
  refine keeps_of_vc mix TyT_ok (cok_cons k_laws_sameInts Try.func37 rfl rfl cok_nil) Try.func20 rfl rfl rfl ?_
  intro aargs hs Fs K h
  simp only [c_laws_sameLedger] at h
  split at h
  case h_2 => exact h.elim
  rename_i a f b g
  obtain ⟨rfl, ha, hb, h⟩ := h
  have no : ∀ {c : Bool}, decide (f = g ∧ a = b) = c → K (B c) [] [] := fun e => by rw [← e]; exact h
  repeat' (first
    | ((conv => whnf); (first
      | refine brK_dec (fun _ => ?_) (fun _ => ?_)
      | refine brK_ndec (fun _ => ?_) (fun _ => ?_)
      | refine brK_not (fun _ => ?_) (fun _ => ?_)
      | refine brK_in (fun _ => ?_) (fun _ => ?_)
      | refine And.intro (by first | exact rfl | exact ⟨_, rfl, rfl⟩ | exact ⟨rfl, rfl, rfl⟩ | exact of_decide_eq_true rfl | exact trivial | assumption | omega | (show (_ ≤ _ ∧ _ ≤ _); omega) | (simp; omega) | exact ⟨by first | omega | (simp; omega), _, rfl, rfl⟩) ?_
      | refine Both.mk ?_ ?_
      | refine Exists.intro _ (And.intro rfl ?_)
      | refine fun _ => ?_))
    | exact rfl)
  · rename_i g1; exact no (by simp [g1])
  · rename_i g1; exact no (by simp [g1])
end Go.Proofs.Ythplhhilhfpcaaa
