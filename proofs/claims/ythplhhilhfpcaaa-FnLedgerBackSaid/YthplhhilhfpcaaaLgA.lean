/-
Ledgers and transactions: the functions of the program and of the reference.
No conditions.
-/
import Derived.Test.YthplhhilhfpcaaaEvA
namespace Go.Proofs.Ythplhhilhfpcaaa
open Go Go.Vc
set_option maxHeartbeats 2000000
set_option maxRecDepth 10000
def ledV (b : List Int) (f : Int) : Bool := b.all (inR · 0 999) && (decide ((b.length : Int) = 6) && inR f 0 5994)
def txV (f t s e : Int) : Bool := inR f 0 5 && (inR t 0 5 && (!decide (f = t) && (inR s 1 99 && inR e 0 9)))
def roomV (b : List Int) (f : Int) : Bool := ledV b f && decide (f ≤ 5985)
def getL (l : List Int) (i : Int) : Int := l.getD i.toNat 0
def applyP (l : List Int) (fe f t s e : Int) : List Int × Int × Bool :=
  if (txV f t s e && (decide (s + e ≤ getL l f) && decide (getL l t + s ≤ 999))) = true then ((l.set f.toNat (getL l f - (s + e))).set t.toNat (getL l t + s), fe + e, true) else (l, fe, false)
def c_spec_LedgerValid : Con := ⟨0, 0, false, fun xs hs _ K => match xs with
  | [.agg [.ints b, .val (.int .i64 f)]] => hs = [] ∧ b.length < 2000000 ∧ K (B (ledV b f)) [] []
  | _ => False⟩
theorem k_spec_LedgerValid : Keeps' Try.prog 82 c_spec_LedgerValid := by
  refine keeps_of_vc mix TyT_ok (cok_cons k_spec_l6In Try.func43 rfl rfl cok_nil) Try.func82 rfl rfl rfl ?_
  intro aargs hs Fs K h
  simp only [c_spec_LedgerValid] at h
  split at h
  case h_2 => exact h.elim
  rename_i b f
  obtain ⟨rfl, hl, h⟩ := h
  have no : ∀ {c : Bool}, ledV b f = c → K (B c) [] [] := fun e => by rw [← e]; exact h
  repeat' (first
    | ((conv => whnf); (first
      | refine brK_dec (fun _ => ?_) (fun _ => ?_)
      | refine brK_ndec (fun _ => ?_) (fun _ => ?_)
      | refine brK_not (fun _ => ?_) (fun _ => ?_)
      | refine brK_in (fun _ => ?_) (fun _ => ?_)
      | refine And.intro (by first | exact rfl | exact ⟨_, rfl, rfl⟩ | exact ⟨rfl, rfl, rfl⟩ | exact of_decide_eq_true rfl | exact trivial | assumption | omega | (show (_ ≤ _ ∧ _ ≤ _); omega) | (simp; omega) | exact ⟨by first | omega | (simp; omega), _, rfl, rfl⟩) ?_
      | refine Both.mk ?_ ?_
      | refine Exists.intro _ (And.intro rfl ?_)
      | refine fun _ => ?_))
    | exact rfl)
  refine loop_in (ι := Nat) (fun i => mkS 27 [(1, .ptr 0 0), (2, B false), (3, I i)] [.cells [.ints b, I f]] Fs) (fun i => i ≤ b.length ∧ ∀ x ∈ b.take i, inR x 0 999 = true) (fun i => b.length - i) 0 [0] ⟨Nat.zero_le _, by simp⟩ ?_ ?_
  · repeat' (first
      | ((conv => whnf); (first
        | refine brK_dec (fun _ => ?_) (fun _ => ?_)
        | refine brK_ndec (fun _ => ?_) (fun _ => ?_)
        | refine brK_not (fun _ => ?_) (fun _ => ?_)
        | refine brK_in (fun _ => ?_) (fun _ => ?_)
        | refine And.intro (by first | exact rfl | exact ⟨_, rfl, rfl⟩ | exact ⟨rfl, rfl, rfl⟩ | exact of_decide_eq_true rfl | exact trivial | assumption | omega | (show (_ ≤ _ ∧ _ ≤ _); omega) | (simp; omega) | exact ⟨by first | omega | (simp; omega), _, rfl, rfl⟩) ?_
        | refine Both.mk ?_ ?_
        | refine Exists.intro _ (And.intro rfl ?_)
        | refine fun _ => ?_))
      | exact rfl)
  intro i ⟨hi, hall⟩
  repeat' (first
    | ((conv => whnf); (first
      | refine brK_dec (fun _ => ?_) (fun _ => ?_)
      | refine brK_ndec (fun _ => ?_) (fun _ => ?_)
      | refine brK_not (fun _ => ?_) (fun _ => ?_)
      | refine brK_in (fun _ => ?_) (fun _ => ?_)
      | refine And.intro (by first | exact rfl | exact ⟨_, rfl, rfl⟩ | exact ⟨rfl, rfl, rfl⟩ | exact of_decide_eq_true rfl | exact trivial | assumption | omega | (show (_ ≤ _ ∧ _ ≤ _); omega) | (simp; omega) | exact ⟨by first | omega | (simp; omega), _, rfl, rfl⟩) ?_
      | refine Both.mk ?_ ?_
      | refine Exists.intro _ (And.intro rfl ?_)
      | refine fun _ => ?_))
    | exact rfl)
  · rename_i hil x hx hr
    exact no (by
      simp only [ledV, Bool.and_eq_false_iff, List.all_eq_false]
      exact .inl ⟨x, List.mem_of_getElem? hx, by simp [hr]⟩)
  · rename_i hil x hx hr
    refine ⟨i + 1, [0], ⟨by omega, take_all hall hx hr⟩, by omega, ?_⟩
    repeat' (first
      | ((conv => whnf); (first
        | refine brK_dec (fun _ => ?_) (fun _ => ?_)
        | refine brK_ndec (fun _ => ?_) (fun _ => ?_)
        | refine brK_not (fun _ => ?_) (fun _ => ?_)
        | refine brK_in (fun _ => ?_) (fun _ => ?_)
        | refine And.intro (by first | exact rfl | exact ⟨_, rfl, rfl⟩ | exact ⟨rfl, rfl, rfl⟩ | exact of_decide_eq_true rfl | exact trivial | assumption | omega | (show (_ ≤ _ ∧ _ ≤ _); omega) | (simp; omega) | exact ⟨by first | omega | (simp; omega), _, rfl, rfl⟩) ?_
        | refine Both.mk ?_ ?_
        | refine Exists.intro _ (And.intro rfl ?_)
        | refine fun _ => ?_))
      | exact rfl)
  · rename_i hil h6
    exact no (by simp only [ledV, List.all_eq_true.2 (all_take hall hil), Bool.true_and, decide_eq_true h6])
  · rename_i hil h6
    exact no (by simp only [ledV, List.all_eq_true.2 (all_take hall hil), Bool.true_and, decide_eq_false h6, Bool.false_and])
theorem k_impl_LedgerValid : Keeps' Try.prog 51 c_spec_LedgerValid := by
  refine keeps_of_vc mix TyT_ok cok_nil Try.func51 rfl rfl rfl ?_
  intro aargs hs Fs K h
  simp only [c_spec_LedgerValid] at h
  split at h
  case h_2 => exact h.elim
  rename_i b f
  obtain ⟨rfl, hl, h⟩ := h
  have no : ∀ {c : Bool}, ledV b f = c → K (B c) [] [] := fun e => by rw [← e]; exact h
  repeat' (first
    | ((conv => whnf); (first
      | refine brK_dec (fun _ => ?_) (fun _ => ?_)
      | refine brK_ndec (fun _ => ?_) (fun _ => ?_)
      | refine brK_not (fun _ => ?_) (fun _ => ?_)
      | refine brK_in (fun _ => ?_) (fun _ => ?_)
      | refine And.intro (by first | exact rfl | exact ⟨_, rfl, rfl⟩ | exact ⟨rfl, rfl, rfl⟩ | exact of_decide_eq_true rfl | exact trivial | assumption | omega | (show (_ ≤ _ ∧ _ ≤ _); omega) | (simp; omega) | exact ⟨by first | omega | (simp; omega), _, rfl, rfl⟩) ?_
      | refine Both.mk ?_ ?_
      | refine Exists.intro _ (And.intro rfl ?_)
      | refine fun _ => ?_))
    | exact rfl)
  · rename_i h1; exact no (by simp [ledV, h1])
  · rename_i h0 h1; exact no (by have : inR f 0 5994 = false := by (simp [inR]; omega)
                                 simp [ledV, this])
  · rename_i h2 h0 h1; exact no (by have : inR f 0 5994 = false := by (simp [inR]; omega)
                                    simp [ledV, this])
  rename_i h2 h0 h1
  refine loop_in (ι := Nat) (fun i => mkS 33 [(1, .ptr 0 0), (2, B false), (20, .ints b), (21, I b.length), (22, I i)] [.cells [.ints b, I f]] Fs) (fun i => i ≤ b.length ∧ ∀ x ∈ b.take i, inR x 0 999 = true) (fun i => b.length - i) 0 [0] ⟨Nat.zero_le _, by simp⟩ ?_ ?_
  · repeat' (first
      | ((conv => whnf); (first
        | refine brK_dec (fun _ => ?_) (fun _ => ?_)
        | refine brK_ndec (fun _ => ?_) (fun _ => ?_)
        | refine brK_not (fun _ => ?_) (fun _ => ?_)
        | refine brK_in (fun _ => ?_) (fun _ => ?_)
        | refine And.intro (by first | exact rfl | exact ⟨_, rfl, rfl⟩ | exact ⟨rfl, rfl, rfl⟩ | exact of_decide_eq_true rfl | exact trivial | assumption | omega | (show (_ ≤ _ ∧ _ ≤ _); omega) | (simp; omega) | exact ⟨by first | omega | (simp; omega), _, rfl, rfl⟩) ?_
        | refine Both.mk ?_ ?_
        | refine Exists.intro _ (And.intro rfl ?_)
        | refine fun _ => ?_))
      | exact rfl)
  intro i ⟨hi, hall⟩
  repeat' (first
    | ((conv => whnf); (first
      | refine brK_dec (fun _ => ?_) (fun _ => ?_)
      | refine brK_ndec (fun _ => ?_) (fun _ => ?_)
      | refine brK_not (fun _ => ?_) (fun _ => ?_)
      | refine brK_in (fun _ => ?_) (fun _ => ?_)
      | refine And.intro (by first | exact rfl | exact ⟨_, rfl, rfl⟩ | exact ⟨rfl, rfl, rfl⟩ | exact of_decide_eq_true rfl | exact trivial | assumption | omega | (show (_ ≤ _ ∧ _ ≤ _); omega) | (simp; omega) | exact ⟨by first | omega | (simp; omega), _, rfl, rfl⟩) ?_
      | refine Both.mk ?_ ?_
      | refine Exists.intro _ (And.intro rfl ?_)
      | refine fun _ => ?_))
    | exact rfl)
  · rename_i hil x hx h3
    exact no (by
      simp only [ledV, Bool.and_eq_false_iff, List.all_eq_false]
      exact .inl ⟨x, List.mem_of_getElem? hx, by simp [inR]; omega⟩)
  · rename_i hil x hx h3 h4
    exact no (by
      simp only [ledV, Bool.and_eq_false_iff, List.all_eq_false]
      exact .inl ⟨x, List.mem_of_getElem? hx, by simp [inR]; omega⟩)
  · rename_i hil x hx h3 h4
    refine ⟨i + 1, [0], ⟨by omega, take_all hall hx (by simp [inR]; omega)⟩, by omega, ?_⟩
    repeat' (first
      | ((conv => whnf); (first
        | refine brK_dec (fun _ => ?_) (fun _ => ?_)
        | refine brK_ndec (fun _ => ?_) (fun _ => ?_)
        | refine brK_not (fun _ => ?_) (fun _ => ?_)
        | refine brK_in (fun _ => ?_) (fun _ => ?_)
        | refine And.intro (by first | exact rfl | exact ⟨_, rfl, rfl⟩ | exact ⟨rfl, rfl, rfl⟩ | exact of_decide_eq_true rfl | exact trivial | assumption | omega | (show (_ ≤ _ ∧ _ ≤ _); omega) | (simp; omega) | exact ⟨by first | omega | (simp; omega), _, rfl, rfl⟩) ?_
        | refine Both.mk ?_ ?_
        | refine Exists.intro _ (And.intro rfl ?_)
        | refine fun _ => ?_))
      | exact rfl)
  · rename_i hil
    have h6 : (b.length : Int) = 6 := by omega
    exact no (by
      simp only [ledV, List.all_eq_true.2 (all_take hall hil), Bool.true_and, decide_eq_true h6]
      simp [inR]; omega)
def c_spec_TxnValid : Con := ⟨0, 0, false, fun xs hs _ K => match xs with
  | [.agg [.val (.int .i64 f), .val (.int .i64 t), .val (.int .i64 s), .val (.int .i64 e)]] => hs = [] ∧ K (B (txV f t s e)) [] []
  | _ => False⟩
theorem k_spec_TxnValid : Keeps' Try.prog 84 c_spec_TxnValid := by
  refine keeps_of_vc mix TyT_ok (cok_cons k_spec_l6In Try.func43 rfl rfl cok_nil) Try.func84 rfl rfl rfl ?_
  intro aargs hs Fs K h
  simp only [c_spec_TxnValid] at h
  split at h
  case h_2 => exact h.elim
  rename_i f t s e
  obtain ⟨rfl, h⟩ := h
  have no : ∀ {c : Bool}, txV f t s e = c → K (B c) [] [] := fun e => by rw [← e]; exact h
  repeat' (first
    | ((conv => whnf); (first
      | refine brK_dec (fun _ => ?_) (fun _ => ?_)
      | refine brK_ndec (fun _ => ?_) (fun _ => ?_)
      | refine brK_not (fun _ => ?_) (fun _ => ?_)
      | refine brK_in (fun _ => ?_) (fun _ => ?_)
      | refine And.intro (by first | exact rfl | exact ⟨_, rfl, rfl⟩ | exact ⟨rfl, rfl, rfl⟩ | exact of_decide_eq_true rfl | exact trivial | assumption | omega | (show (_ ≤ _ ∧ _ ≤ _); omega) | (simp; omega) | exact ⟨by first | omega | (simp; omega), _, rfl, rfl⟩) ?_
      | refine Both.mk ?_ ?_
      | refine Exists.intro _ (And.intro rfl ?_)
      | refine fun _ => ?_))
    | exact rfl)
  all_goals exact no (by simp_all [txV])
def c_impl_isAccount : Con := ⟨0, 0, false, fun xs hs _ K => match xs with
  | [.val (.int .i64 a)] => hs = [] ∧ K (B (inR a 0 5)) [] []
  | _ => False⟩
theorem k_impl_isAccount : Keeps' Try.prog 57 c_impl_isAccount := by
  refine keeps_of_vc mix TyT_ok cok_nil Try.func57 rfl rfl rfl ?_
  intro aargs hs Fs K h
  simp only [c_impl_isAccount] at h
  split at h
  case h_2 => exact h.elim
  rename_i a
  obtain ⟨rfl, h⟩ := h
  have no : ∀ {b : Bool}, inR a 0 5 = b → K (B b) [] [] := fun e => by rw [← e]; exact h
  repeat' (first
    | ((conv => whnf); (first
      | refine brK_dec (fun _ => ?_) (fun _ => ?_)
      | refine brK_ndec (fun _ => ?_) (fun _ => ?_)
      | refine brK_not (fun _ => ?_) (fun _ => ?_)
      | refine brK_in (fun _ => ?_) (fun _ => ?_)
      | refine And.intro (by first | exact rfl | exact ⟨_, rfl, rfl⟩ | exact ⟨rfl, rfl, rfl⟩ | exact of_decide_eq_true rfl | exact trivial | assumption | omega | (show (_ ≤ _ ∧ _ ≤ _); omega) | (simp; omega) | exact ⟨by first | omega | (simp; omega), _, rfl, rfl⟩) ?_
      | refine Both.mk ?_ ?_
      | refine Exists.intro _ (And.intro rfl ?_)
      | refine fun _ => ?_))
    | exact rfl)
  all_goals exact no (by rw [Bool.eq_iff_iff]; simp [inR]; omega)
theorem k_impl_TxnValid : Keeps' Try.prog 21 c_spec_TxnValid := by
  refine keeps_of_vc mix TyT_ok (cok_cons k_impl_isAccount Try.func57 rfl rfl cok_nil) Try.func21 rfl rfl rfl ?_
  intro aargs hs Fs K h
  simp only [c_spec_TxnValid] at h
  split at h
  case h_2 => exact h.elim
  rename_i f t s e
  obtain ⟨rfl, h⟩ := h
  have no : ∀ {c : Bool}, txV f t s e = c → K (B c) [] [] := fun e => by rw [← e]; exact h
  repeat' (first
    | ((conv => whnf); (first
      | refine brK_dec (fun _ => ?_) (fun _ => ?_)
      | refine brK_ndec (fun _ => ?_) (fun _ => ?_)
      | refine brK_not (fun _ => ?_) (fun _ => ?_)
      | refine brK_in (fun _ => ?_) (fun _ => ?_)
      | refine And.intro (by first | exact rfl | exact ⟨_, rfl, rfl⟩ | exact ⟨rfl, rfl, rfl⟩ | exact of_decide_eq_true rfl | exact trivial | assumption | omega | (show (_ ≤ _ ∧ _ ≤ _); omega) | (simp; omega) | exact ⟨by first | omega | (simp; omega), _, rfl, rfl⟩) ?_
      | refine Both.mk ?_ ?_
      | refine Exists.intro _ (And.intro rfl ?_)
      | refine fun _ => ?_))
    | exact rfl)
  · rename_i h1; exact no (by simp [txV, h1])
  · rename_i h1 h2; exact no (by simp [txV, h2])
  · rename_i h1 h2 h3; exact no (by simp [txV, h3])
  all_goals exact no (by rw [Bool.eq_iff_iff]; simp_all [txV, inR]; try omega)
def c_spec_l31Room : Con := ⟨0, 0, false, fun xs hs _ K => match xs with
  | [.agg [.ints b, .val (.int .i64 f)], .val (.int .i64 n)] => hs = [] ∧ n = 1 ∧ b.length < 2000000 ∧ K (B (roomV b f)) [] []
  | _ => False⟩
theorem k_spec_l31Room : Keeps' Try.prog 55 c_spec_l31Room := by
  refine keeps_of_vc mix TyT_ok (cok_cons k_spec_LedgerValid Try.func82 rfl rfl cok_nil) Try.func55 rfl rfl rfl ?_
  intro aargs hs Fs K h
  simp only [c_spec_l31Room] at h
  split at h
  case h_2 => exact h.elim
  rename_i b f n
  obtain ⟨rfl, rfl, hl, h⟩ := h
  have no : ∀ {c : Bool}, roomV b f = c → K (B c) [] [] := fun e => by rw [← e]; exact h
  repeat' (first
    | ((conv => whnf); (first
      | refine brK_dec (fun _ => ?_) (fun _ => ?_)
      | refine brK_ndec (fun _ => ?_) (fun _ => ?_)
      | refine brK_not (fun _ => ?_) (fun _ => ?_)
      | refine brK_in (fun _ => ?_) (fun _ => ?_)
      | refine And.intro (by first | exact rfl | exact ⟨_, rfl, rfl⟩ | exact ⟨rfl, rfl, rfl⟩ | exact of_decide_eq_true rfl | exact trivial | assumption | omega | (show (_ ≤ _ ∧ _ ≤ _); omega) | (simp; omega) | exact ⟨by first | omega | (simp; omega), _, rfl, rfl⟩) ?_
      | refine Both.mk ?_ ?_
      | refine Exists.intro _ (And.intro rfl ?_)
      | refine fun _ => ?_))
    | exact rfl)
  all_goals exact no (by simp_all [roomV])
def c_spec_l31Copy : Con := ⟨1, 0, false, fun xs hs _ K => match xs with
  | [.agg [.ints b, .val (.int .i64 f)]] => hs = [] ∧ b.length ≤ 2000000 ∧ K (.agg [.own 0, I f]) [.iarr b] []
  | _ => False⟩
theorem k_spec_l31Copy : Keeps' Try.prog 83 c_spec_l31Copy := by
  refine keeps_of_vc mix TyT_ok cok_nil Try.func83 rfl rfl rfl ?_
  intro aargs hs Fs K h
  simp only [c_spec_l31Copy] at h
  split at h
  case h_2 => exact h.elim
  rename_i b f
  obtain ⟨rfl, hl, h⟩ := h
  repeat' (first
    | ((conv => whnf); (first
      | refine draw_plan (id := 1) [] [7] (.take 1 (.take 2 (.take 4 (.take 5 (.run 0 (.run 3 (.take 6 (.run 7 .done)))))))) (by kernel_rfl) (by kernel_rfl) ?_
      | refine brK_dec (fun _ => ?_) (fun _ => ?_)
      | refine brK_ndec (fun _ => ?_) (fun _ => ?_)
      | refine brK_not (fun _ => ?_) (fun _ => ?_)
      | refine brK_in (fun _ => ?_) (fun _ => ?_)
      | refine And.intro (by first | exact rfl | exact ⟨_, rfl, rfl⟩ | exact ⟨rfl, rfl, rfl⟩ | exact of_decide_eq_true rfl | exact trivial | assumption | omega | (show (_ ≤ _ ∧ _ ≤ _); omega) | (simp; omega) | exact ⟨by first | omega | (simp; omega), _, rfl, rfl⟩) ?_
      | refine Both.mk ?_ ?_
      | refine Exists.intro _ (And.intro rfl ?_)
      | refine fun _ => ?_))
    | exact rfl)
  all_goals exact h
theorem getL_of {l : List Int} {i x : Int} (h : l[i.toNat]? = some x) : getL l i = x := by simp [getL, List.getD, h]
theorem txV_out {f t s e : Int} (h : txV f t s e = true) : 0 ≤ f ∧ f ≤ 5 ∧ 0 ≤ t ∧ t ≤ 5 ∧ f ≠ t ∧ 1 ≤ s ∧ s ≤ 99 ∧ 0 ≤ e ∧ e ≤ 9 := by
  simp [txV, inR] at h; omega
theorem ledV_out {b : List Int} {f : Int} (h : ledV b f = true) : b.length = 6 ∧ 0 ≤ f ∧ f ≤ 5994 ∧ ∀ x ∈ b, 0 ≤ x ∧ x ≤ 999 := by
  simp [ledV, inR] at h; exact ⟨by omega, by omega, by omega, h.1⟩
theorem rng_bal {b : List Int} (hx : ∀ x ∈ b, 0 ≤ x ∧ x ≤ 999) {i : Nat} {x z : Int} (h : b[i]? = some x) (hz : 0 ≤ x → x ≤ 999 → -5000 ≤ z ∧ z ≤ 5000) : rng .i64 z := by
  have h1 := hx x (List.mem_of_getElem? h)
  have h2 := hz h1.1 h1.2
  show _ ≤ _ ∧ _ ≤ _
  omega
def c_spec_l31Apply : Con := ⟨1, 0, false, fun xs hs _ K => match xs with
  | [.agg [.ints b, .val (.int .i64 fe)], .agg [.val (.int .i64 f), .val (.int .i64 t), .val (.int .i64 s), .val (.int .i64 e)]] => hs = [] ∧ ledV b fe = true ∧
    ∀ l g d, applyP b fe f t s e = (l, g, d) → K (.tup [.agg [.own 0, I g], B d]) [.iarr l] []
  | _ => False⟩
theorem k_spec_l31Apply : Keeps' Try.prog 56 c_spec_l31Apply := by
  refine keeps_of_vc mix TyT_ok (cok_cons k_spec_l31Copy Try.func83 rfl rfl (cok_cons k_spec_TxnValid Try.func84 rfl rfl cok_nil)) Try.func56 rfl rfl rfl ?_
  intro aargs hs Fs K h
  simp only [c_spec_l31Apply] at h
  split at h
  case h_2 => exact h.elim
  rename_i b fe f t s e
  obtain ⟨rfl, hv, h⟩ := h
  obtain ⟨hl, hf0, hf1, hx⟩ := ledV_out hv
  cases htx : txV f t s e
  · repeat' (first
      | ((conv => whnf); (first
        | refine draw_plan (id := 2) [] [] (.take 0 (.run 1 (.take 2 (.take 3 (.take 4 (.take 5 (.take 6 (.take 7 (.take 8 (.take 9 (.take 10 (.take 11 (.take 12 (.take 13 (.take 14 (.take 15 (.take 16 (.take 17 (.take 18 (.take 19 (.take 20 (.take 21 (.take 22 (.take 23 (.take 24 (.take 25 (.take 26 (.take 27 (.take 28 .done))))))))))))))))))))))))))))) (by kernel_rfl) (by kernel_rfl) ?_
        | refine draw_plan (id := 4) [] [17] (.take 0 (.take 1 (.take 2 (.take 3 (.take 4 (.take 5 (.take 6 (.take 7 (.take 8 (.take 9 (.take 10 (.take 11 (.take 12 (.take 13 (.take 14 (.take 15 (.take 16 (.run 17 .done)))))))))))))))))) (by kernel_rfl) (by kernel_rfl) ?_
        | refine draw_plan (id := 5) [] [14] (.take 0 (.take 1 (.take 2 (.take 3 (.take 4 (.take 5 (.take 6 (.take 7 (.take 8 (.take 9 (.take 10 (.take 11 (.take 12 (.take 13 (.run 14 .done))))))))))))))) (by kernel_rfl) (by kernel_rfl) ?_
        | refine brK_dec (fun _ => ?_) (fun _ => ?_)
        | refine brK_ndec (fun _ => ?_) (fun _ => ?_)
        | refine brK_not (fun _ => ?_) (fun _ => ?_)
        | refine brK_in (fun _ => ?_) (fun _ => ?_)
        | refine And.intro (by first | exact rfl | exact ⟨_, rfl, rfl⟩ | exact ⟨rfl, rfl, rfl⟩ | exact of_decide_eq_true rfl | exact trivial | assumption | omega | (show (_ ≤ _ ∧ _ ≤ _); omega) | (simp; omega) | exact ⟨by first | omega | (simp; omega), _, rfl, rfl⟩) ?_
        | refine Both.mk ?_ ?_
        | refine Exists.intro _ (And.intro rfl ?_)
        | refine fun _ => ?_))
      | exact rfl)
    · exact h _ _ _ (by simp [applyP, htx])
    all_goals (exfalso; simp_all)
  · obtain ⟨t1, t2, t3, t4, t5, t6, t7, t8, t9⟩ := txV_out htx
    repeat' (first
      | ((conv => whnf); (first
        | refine draw_plan (id := 2) [] [] (.take 0 (.run 1 (.take 2 (.take 3 (.take 4 (.take 5 (.take 6 (.take 7 (.take 8 (.take 9 (.take 10 (.take 11 (.take 12 (.take 13 (.take 14 (.take 15 (.take 16 (.take 17 (.take 18 (.take 19 (.take 20 (.take 21 (.take 22 (.take 23 (.take 24 (.take 25 (.take 26 (.take 27 (.take 28 .done))))))))))))))))))))))))))))) (by kernel_rfl) (by kernel_rfl) ?_
        | refine draw_plan (id := 4) [] [17] (.take 0 (.take 1 (.take 2 (.take 3 (.take 4 (.take 5 (.take 6 (.take 7 (.take 8 (.take 9 (.take 10 (.take 11 (.take 12 (.take 13 (.take 14 (.take 15 (.take 16 (.run 17 .done)))))))))))))))))) (by kernel_rfl) (by kernel_rfl) ?_
        | refine draw_plan (id := 5) [] [14] (.take 0 (.take 1 (.take 2 (.take 3 (.take 4 (.take 5 (.take 6 (.take 7 (.take 8 (.take 9 (.take 10 (.take 11 (.take 12 (.take 13 (.run 14 .done))))))))))))))) (by kernel_rfl) (by kernel_rfl) ?_
        | refine brK_dec (fun _ => ?_) (fun _ => ?_)
        | refine brK_ndec (fun _ => ?_) (fun _ => ?_)
        | refine brK_not (fun _ => ?_) (fun _ => ?_)
        | refine brK_in (fun _ => ?_) (fun _ => ?_)
        | refine And.intro (by first | exact rfl | exact (rng_bal hx (by assumption) (by omega)) | exact ⟨_, rfl, rfl⟩ | exact ⟨rfl, rfl, rfl⟩ | exact of_decide_eq_true rfl | exact trivial | assumption | omega | (show (_ ≤ _ ∧ _ ≤ _); omega) | (simp; omega) | exact ⟨by first | omega | (simp; omega), _, rfl, rfl⟩) ?_
        | refine Both.mk ?_ ?_
        | refine Exists.intro _ (And.intro rfl ?_)
        | refine fun _ => ?_))
      | exact rfl)
    · exfalso; simp_all; done
    · rename_i h1 x hxx hlt
      exact h _ _ _ (by
        have : ¬ (s + e ≤ getL b f) := by rw [getL_of hxx]; omega
        simp [applyP, this])
    · rename_i h1 x hxx hlt y hyy h2
      exact h _ _ _ (by
        have : ¬ (getL b t + s ≤ 999) := by rw [getL_of hyy]; omega
        simp [applyP, this])
    · rename_i h1 x hxx hlt y hyy h2 x' hxx' y' hyy'
      have hxx1 : b[f.toNat]? = some x := hxx
      have hyy1 : b[t.toNat]? = some y := hyy
      have hxx2 : b[f.toNat]? = some x' := hxx'
      have hyy2 : b[t.toNat]? = some y' := hyy'
      rw [hxx1] at hxx2
      rw [hyy1] at hyy2
      cases hxx2
      cases hyy2
      refine h _ _ _ ?_
      have e1 : getL b f = x := getL_of hxx
      have e2 : getL b t = y := getL_of hyy
      have e3 : x - (s + e) = x - s - e := by omega
      have c1 : s + e ≤ x := by omega
      have c2 : y + s ≤ 999 := by omega
      simp [applyP, htx, e1, e2, e3, c1, c2]
end Go.Proofs.Ythplhhilhfpcaaa
