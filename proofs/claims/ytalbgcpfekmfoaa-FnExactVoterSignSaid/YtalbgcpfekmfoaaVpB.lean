/-
Votes compared; valid voters.
No conditions.
-/
import Derived.Test.YtalbgcpfekmfoaaVpA
namespace Go.Proofs.Ytalbgcpfekmfoaa
open Go Go.Vc
set_option maxHeartbeats 4000000
set_option maxRecDepth 10000
def cmpI (x y : Int) : Int := if x < y then -1 else if y < x then 1 else 0
def orI : List Int → Int
  | [] => 0
  | x :: l => if x = 0 then orI l else x
def cmpT (u v : VtD) : Int := if cmpI u.r v.r = 0 then cmpI u.a v.a else cmpI u.r v.r
theorem cmpT_or (u v : VtD) : orI [cmpI u.r v.r, cmpI u.a v.a] = cmpT u v := by
  unfold orI orI cmpT
  split
  · split
    · rename_i h
      exact h.symm
    · rfl
  · rfl
theorem cmpT_lt {u v : VtD} : decide (cmpT u v < 0) = tltB u v := by
  unfold cmpT cmpI tltB
  by_cases h1 : u.r < v.r
  · simp [h1]
  · by_cases h2 : v.r < u.r
    · simp [h1, h2]
      omega
    · have : u.r = v.r := by omega
      by_cases h3 : u.a < v.a
      · simp [this, h3]
      · by_cases h4 : v.a < u.a <;> simp [this, h3, h4]
def c_cmp_isNaN : Con := ⟨0, 0, false, fun xs hs _ K => match xs with
  | [.val (.int .i64 _)] => hs = [] ∧ K (B false) [] []
  | _ => False⟩
theorem k_cmp_isNaN_int : Keeps' Try.prog 100 c_cmp_isNaN := by
  refine keeps_of_vc mix TyT_ok cok_nil Try.func100 rfl rfl rfl ?_
  intro aargs hs Fs K h
  simp only [c_cmp_isNaN] at h
  split at h
  case h_2 => exact h.elim
  rename_i x
  obtain ⟨rfl, h⟩ := h
  repeat' (first
    | ((conv => whnf); (first
      | refine brK_dec (fun _ => ?_) (fun _ => ?_)
      | refine brK_ndec (fun _ => ?_) (fun _ => ?_)
      | refine brK_not (fun _ => ?_) (fun _ => ?_)
      | refine brK_in (fun _ => ?_) (fun _ => ?_)
      | refine And.intro (by first | exact rfl | exact ⟨_, rfl, rfl⟩ | exact ⟨rfl, rfl, rfl⟩ | exact of_decide_eq_true rfl | exact trivial | assumption | omega | (show (_ ≤ _ ∧ _ ≤ _); omega) | (simp; omega) | exact ⟨by first | omega | (simp; omega), _, rfl, rfl⟩) ?_
      | refine Quo.l (And.intro (by first | exact rfl | assumption | omega | (simp; omega)) ?_)
      | refine Quo.r (And.intro (by omega) ?_)
      | refine Both.mk ?_ ?_
      | refine Exists.intro _ (And.intro rfl ?_)
      | refine fun _ => ?_))
    | exact rfl)
  all_goals simpa using h
def c_cmp_Compare : Con := ⟨0, 0, false, fun xs hs _ K => match xs with
  | [.val (.int .i64 x), .val (.int .i64 y)] => hs = [] ∧ K (I (cmpI x y)) [] []
  | _ => False⟩
theorem k_cmp_Compare_int : Keeps' Try.prog 91 c_cmp_Compare := by
  refine keeps_of_vc mix TyT_ok (cok_cons k_cmp_isNaN_int Try.func100 rfl rfl cok_nil) Try.func91 rfl rfl rfl ?_
  intro aargs hs Fs K h
  simp only [c_cmp_Compare] at h
  split at h
  case h_2 => exact h.elim
  rename_i x y
  obtain ⟨rfl, h⟩ := h
  have no : ∀ {z : Int}, cmpI x y = z → K (I z) [] [] := fun e => by rw [← e]; exact h
  repeat' (first
    | ((conv => whnf); (first
      | refine brK_dec (fun _ => ?_) (fun _ => ?_)
      | refine brK_ndec (fun _ => ?_) (fun _ => ?_)
      | refine brK_not (fun _ => ?_) (fun _ => ?_)
      | refine brK_in (fun _ => ?_) (fun _ => ?_)
      | refine And.intro (by first | exact rfl | exact ⟨_, rfl, rfl⟩ | exact ⟨rfl, rfl, rfl⟩ | exact of_decide_eq_true rfl | exact trivial | assumption | omega | (show (_ ≤ _ ∧ _ ≤ _); omega) | (simp; omega) | exact ⟨by first | omega | (simp; omega), _, rfl, rfl⟩) ?_
      | refine Quo.l (And.intro (by first | exact rfl | assumption | omega | (simp; omega)) ?_)
      | refine Quo.r (And.intro (by omega) ?_)
      | refine Both.mk ?_ ?_
      | refine Exists.intro _ (And.intro rfl ?_)
      | refine fun _ => ?_))
    | exact rfl)
  · rename_i q
    exact no (if_pos q)
  · rename_i q q2
    exact no (by rw [cmpI, if_neg q, if_pos q2])
  · rename_i q q2
    exact no (by rw [cmpI, if_neg q, if_neg q2])
theorem orI_drop {l : List Int} {i : Nat} {x : Int} (h : l[i]? = some x) : orI (l.drop i) = if x = 0 then orI (l.drop (i + 1)) else x := by
  obtain ⟨hi, rfl⟩ := List.getElem?_eq_some_iff.1 h
  rw [List.drop_eq_getElem_cons hi]
  rfl
def c_cmp_Or : Con := ⟨0, 0, false, fun xs hs _ K => match xs with
  | [.ints l] => hs = [] ∧ l.length < 2000000 ∧ K (I (orI l)) [] []
  | _ => False⟩
theorem k_cmp_Or_int : Keeps' Try.prog 90 c_cmp_Or := by
  refine keeps_of_vc mix TyT_ok cok_nil Try.func90 rfl rfl rfl ?_
  intro aargs hs Fs K h
  simp only [c_cmp_Or] at h
  split at h
  case h_2 => exact h.elim
  rename_i l
  obtain ⟨rfl, hl, h⟩ := h
  have no : ∀ {z : Int}, orI l = z → K (I z) [] [] := fun e => by rw [← e]; exact h
  repeat' (first
    | ((conv => whnf); (first
      | refine brK_dec (fun _ => ?_) (fun _ => ?_)
      | refine brK_ndec (fun _ => ?_) (fun _ => ?_)
      | refine brK_not (fun _ => ?_) (fun _ => ?_)
      | refine brK_in (fun _ => ?_) (fun _ => ?_)
      | refine And.intro (by first | exact rfl | exact ⟨_, rfl, rfl⟩ | exact ⟨rfl, rfl, rfl⟩ | exact of_decide_eq_true rfl | exact trivial | assumption | omega | (show (_ ≤ _ ∧ _ ≤ _); omega) | (simp; omega) | exact ⟨by first | omega | (simp; omega), _, rfl, rfl⟩) ?_
      | refine Quo.l (And.intro (by first | exact rfl | assumption | omega | (simp; omega)) ?_)
      | refine Quo.r (And.intro (by omega) ?_)
      | refine Both.mk ?_ ?_
      | refine Exists.intro _ (And.intro rfl ?_)
      | refine fun _ => ?_))
    | exact rfl)
  refine loop_in (ι := Nat) (fun i => mkS 18 [(3, I 0), (6, .ints l), (7, I l.length), (8, I i)] [] Fs) (fun i => i ≤ l.length ∧ orI l = orI (l.drop i)) (fun i => l.length - i) 0 [] ⟨Nat.zero_le _, rfl⟩ ?_ ?_
  · repeat' (first
      | ((conv => whnf); (first
        | refine brK_dec (fun _ => ?_) (fun _ => ?_)
        | refine brK_ndec (fun _ => ?_) (fun _ => ?_)
        | refine brK_not (fun _ => ?_) (fun _ => ?_)
        | refine brK_in (fun _ => ?_) (fun _ => ?_)
        | refine And.intro (by first | exact rfl | exact ⟨_, rfl, rfl⟩ | exact ⟨rfl, rfl, rfl⟩ | exact of_decide_eq_true rfl | exact trivial | assumption | omega | (show (_ ≤ _ ∧ _ ≤ _); omega) | (simp; omega) | exact ⟨by first | omega | (simp; omega), _, rfl, rfl⟩) ?_
        | refine Quo.l (And.intro (by first | exact rfl | assumption | omega | (simp; omega)) ?_)
        | refine Quo.r (And.intro (by omega) ?_)
        | refine Both.mk ?_ ?_
        | refine Exists.intro _ (And.intro rfl ?_)
        | refine fun _ => ?_))
      | exact rfl)
  intro i ⟨hi, hall⟩
  repeat' (first
    | ((conv => whnf); (first
      | refine brK_dec (fun _ => ?_) (fun _ => ?_)
      | refine brK_ndec (fun _ => ?_) (fun _ => ?_)
      | refine brK_not (fun _ => ?_) (fun _ => ?_)
      | refine brK_in (fun _ => ?_) (fun _ => ?_)
      | refine And.intro (by first | exact rfl | exact ⟨_, rfl, rfl⟩ | exact ⟨rfl, rfl, rfl⟩ | exact of_decide_eq_true rfl | exact trivial | assumption | omega | (show (_ ≤ _ ∧ _ ≤ _); omega) | (simp; omega) | exact ⟨by first | omega | (simp; omega), _, rfl, rfl⟩) ?_
      | refine Quo.l (And.intro (by first | exact rfl | assumption | omega | (simp; omega)) ?_)
      | refine Quo.r (And.intro (by omega) ?_)
      | refine Both.mk ?_ ?_
      | refine Exists.intro _ (And.intro rfl ?_)
      | refine fun _ => ?_))
    | exact rfl)
  · rename_i hil x hx q
    have hx : l[i]? = some x := hx
    exact no (by rw [hall, orI_drop hx, if_neg q])
  · rename_i hil x hx q
    have hx : l[i]? = some x := hx
    refine ⟨i + 1, [], ⟨by omega, by rw [hall, orI_drop hx, if_pos q]⟩, by omega, ?_⟩
    repeat' (first
      | ((conv => whnf); (first
        | refine brK_dec (fun _ => ?_) (fun _ => ?_)
        | refine brK_ndec (fun _ => ?_) (fun _ => ?_)
        | refine brK_not (fun _ => ?_) (fun _ => ?_)
        | refine brK_in (fun _ => ?_) (fun _ => ?_)
        | refine And.intro (by first | exact rfl | exact ⟨_, rfl, rfl⟩ | exact ⟨rfl, rfl, rfl⟩ | exact of_decide_eq_true rfl | exact trivial | assumption | omega | (show (_ ≤ _ ∧ _ ≤ _); omega) | (simp; omega) | exact ⟨by first | omega | (simp; omega), _, rfl, rfl⟩) ?_
        | refine Quo.l (And.intro (by first | exact rfl | assumption | omega | (simp; omega)) ?_)
        | refine Quo.r (And.intro (by omega) ?_)
        | refine Both.mk ?_ ?_
        | refine Exists.intro _ (And.intro rfl ?_)
        | refine fun _ => ?_))
      | exact rfl)
  · rename_i hil
    exact no (by rw [hall, List.drop_of_length_le (by omega)]; rfl)
def c_impl_compareVotes : Con := ⟨0, 0, false, fun xs hs _ K => match xs with
  | [.agg [.val (.int .i64 r), .val (.int .i64 a), .val (.int .i64 d)], .agg [.val (.int .i64 r'), .val (.int .i64 a'), .val (.int .i64 d')]] => hs = [] ∧ K (I (cmpT ⟨r, a, d⟩ ⟨r', a', d'⟩)) [] []
  | _ => False⟩
theorem k_impl_compareVotes : Keeps' Try.prog 57 c_impl_compareVotes := by
  refine keeps_of_vc mix TyT_ok (cok_cons k_cmp_Compare_int Try.func91 rfl rfl (cok_cons k_cmp_Or_int Try.func90 rfl rfl cok_nil)) Try.func57 rfl rfl rfl ?_
  intro aargs hs Fs K h
  simp only [c_impl_compareVotes] at h
  split at h
  case h_2 => exact h.elim
  rename_i r a d r' a' d'
  obtain ⟨rfl, h⟩ := h
  rw [← cmpT_or] at h
  repeat' (first
    | ((conv => whnf); (first
      | refine draw_plan (id := 1) [] [] (.take 0 (.take 1 (.take 2 (.take 3 (.take 5 (.take 6 (.take 7 (.take 8 (.run 4 (.run 9 (.run 10 (.run 11 (.take 12 .done))))))))))))) (by kernel_rfl) (by kernel_rfl) ?_
      | refine brK_dec (fun _ => ?_) (fun _ => ?_)
      | refine brK_ndec (fun _ => ?_) (fun _ => ?_)
      | refine brK_not (fun _ => ?_) (fun _ => ?_)
      | refine brK_in (fun _ => ?_) (fun _ => ?_)
      | refine And.intro (by first | exact rfl | exact ⟨_, rfl, rfl⟩ | exact ⟨rfl, rfl, rfl⟩ | exact of_decide_eq_true rfl | exact trivial | assumption | omega | (show (_ ≤ _ ∧ _ ≤ _); omega) | (simp; omega) | exact ⟨by first | omega | (simp; omega), _, rfl, rfl⟩) ?_
      | refine Quo.l (And.intro (by first | exact rfl | assumption | omega | (simp; omega)) ?_)
      | refine Quo.r (And.intro (by omega) ?_)
      | refine Both.mk ?_ ?_
      | refine Exists.intro _ (And.intro rfl ?_)
      | refine fun _ => ?_))
    | exact rfl)
  exact h
def c_spec_VoterValid : Con := ⟨0, 0, false, fun xs hs _ K => match xs with
  | [.agg [.val (.int .i64 f), .sl 3 rows]] => hs = [] ∧ ∃ l : List VtD, rows = l.map VtD.row ∧ l.length < 2000000 ∧ K (B (vrV f l)) [] []
  | _ => False⟩
theorem k_spec_VoterValid : Keeps' Try.prog 20 c_spec_VoterValid := by
  refine keeps_of_vc mix TyT_ok (cok_cons k_spec_l12Vote Try.func21 rfl rfl (cok_cons k_spec_l12Before Try.func53 rfl rfl (cok_cons k_spec_l6In Try.func54 rfl rfl cok_nil))) Try.func20 rfl rfl rfl ?_
  intro aargs hs Fs K h
  simp only [c_spec_VoterValid] at h
  split at h
  case h_2 => exact h.elim
  rename_i f rows
  obtain ⟨rfl, l, rfl, hl, h⟩ := h
  have no : ∀ {b : Bool}, vrV f l = b → K (B b) [] [] := fun e => by rw [← e]; exact h
  have hlen : (l.map VtD.row).length = l.length := by simp
  repeat' (first
    | ((conv => whnf); (first
      | refine draw_plan (id := 4) [] [] (.take 0 (.take 1 (.take 2 (.take 3 (.take 4 (.run 5 (.take 6 (.take 7 (.take 8 (.take 9 (.take 10 (.take 11 (.take 12 (.take 13 (.take 14 (.take 15 (.take 16 (.take 17 (.take 18 (.take 19 (.take 20 (.take 21 (.take 22 (.take 23 (.take 24 (.take 25 (.take 26 (.take 27 (.take 28 (.take 29 (.take 30 (.take 31 (.take 32 (.run 33 (.take 34 (.take 35 (.take 36 .done))))))))))))))))))))))))))))))))))))) (by kernel_rfl) (by kernel_rfl) ?_
      | refine brK_dec (fun _ => ?_) (fun _ => ?_)
      | refine brK_ndec (fun _ => ?_) (fun _ => ?_)
      | refine brK_not (fun _ => ?_) (fun _ => ?_)
      | refine brK_in (fun _ => ?_) (fun _ => ?_)
      | refine And.intro (by first | exact rfl | exact ⟨_, rfl, rfl⟩ | exact ⟨rfl, rfl, rfl⟩ | exact of_decide_eq_true rfl | exact trivial | assumption | omega | (show (_ ≤ _ ∧ _ ≤ _); omega) | (simp; omega) | exact ⟨by first | omega | (simp; omega), _, rfl, rfl⟩) ?_
      | refine Quo.l (And.intro (by first | exact rfl | assumption | omega | (simp; omega)) ?_)
      | refine Quo.r (And.intro (by omega) ?_)
      | refine Both.mk ?_ ?_
      | refine Exists.intro _ (And.intro rfl ?_)
      | refine optT_use (by assumption) ?_
      | refine trow_use (by assumption) ?_
      | refine trow_in (fun _ _ => ?_)
      | refine fun _ => ?_))
    | exact rfl)
  refine loop_in (ι := Nat) (fun i => mkS 57 [(1, .ptr 0 0), (2, B false), (3, I i)] [.cells [I f, .sl 3 (l.map VtD.row)]] Fs) (fun i => i ≤ l.length ∧ ∀ k, k < i → vcell f l k = true) (fun i => l.length - i) 0 [0] ⟨Nat.zero_le _, fun j hj => absurd hj (by omega)⟩ ?_ ?_
  · repeat' (first
      | ((conv => whnf); (first
        | refine brK_dec (fun _ => ?_) (fun _ => ?_)
        | refine brK_ndec (fun _ => ?_) (fun _ => ?_)
        | refine brK_not (fun _ => ?_) (fun _ => ?_)
        | refine brK_in (fun _ => ?_) (fun _ => ?_)
        | refine And.intro (by first | exact rfl | exact ⟨_, rfl, rfl⟩ | exact ⟨rfl, rfl, rfl⟩ | exact of_decide_eq_true rfl | exact trivial | assumption | omega | (show (_ ≤ _ ∧ _ ≤ _); omega) | (simp; omega) | exact ⟨by first | omega | (simp; omega), _, rfl, rfl⟩) ?_
        | refine Quo.l (And.intro (by first | exact rfl | assumption | omega | (simp; omega)) ?_)
        | refine Quo.r (And.intro (by omega) ?_)
        | refine Both.mk ?_ ?_
        | refine Exists.intro _ (And.intro rfl ?_)
        | refine optT_use (by assumption) ?_
        | refine trow_use (by assumption) ?_
        | refine trow_in (fun _ _ => ?_)
        | refine fun _ => ?_))
      | exact rfl)
  intro i ⟨hi, hall⟩
  repeat' (first
    | ((conv => whnf); (first
      | refine draw_plan (id := 4) [] [] (.take 0 (.take 1 (.take 2 (.take 3 (.take 4 (.run 5 (.take 6 (.take 7 (.take 8 (.take 9 (.take 10 (.take 11 (.take 12 (.take 13 (.take 14 (.take 15 (.take 16 (.take 17 (.take 18 (.take 19 (.take 20 (.take 21 (.take 22 (.take 23 (.take 24 (.take 25 (.take 26 (.take 27 (.take 28 (.take 29 (.take 30 (.take 31 (.take 32 (.run 33 (.take 34 (.take 35 (.take 36 .done))))))))))))))))))))))))))))))))))))) (by kernel_rfl) (by kernel_rfl) ?_
      | refine brK_dec (fun _ => ?_) (fun _ => ?_)
      | refine brK_ndec (fun _ => ?_) (fun _ => ?_)
      | refine brK_not (fun _ => ?_) (fun _ => ?_)
      | refine brK_in (fun _ => ?_) (fun _ => ?_)
      | refine And.intro (by first | exact rfl | exact ⟨_, rfl, rfl⟩ | exact ⟨rfl, rfl, rfl⟩ | exact of_decide_eq_true rfl | exact trivial | assumption | omega | (show (_ ≤ _ ∧ _ ≤ _); omega) | (simp; omega) | exact ⟨by first | omega | (simp; omega), _, rfl, rfl⟩) ?_
      | refine Quo.l (And.intro (by first | exact rfl | assumption | omega | (simp; omega)) ?_)
      | refine Quo.r (And.intro (by omega) ?_)
      | refine Both.mk ?_ ?_
      | refine Exists.intro _ (And.intro rfl ?_)
      | refine optT_use (by assumption) ?_
      | refine trow_use (by assumption) ?_
      | refine trow_in (fun _ _ => ?_)
      | refine fun _ => ?_))
    | exact rfl)
  · rename_i hil v hv e
    exact no (vr_no (i := i) (by omega) (vc_vt hv e))
  · rename_i hil v hv e e2
    exact no (vr_no (i := i) (by omega) (vc_fl hv (by omega)))
  · rename_i hil v hv e e2 h0 u hu e3
    have e1 : ((i : Int) - 1).toNat = i - 1 := by omega
    rw [e1] at hu
    have hv : l[i]? = some v := hv
    have e3 : tltB u v = false := e3
    exact no (vr_no (i := i) (by omega) (by rw [vc_next (by omega) hv hu, e3, Bool.and_false, Bool.and_false]))
  · rename_i hil v hv e e2 h0 u hu e3
    have e1 : ((i : Int) - 1).toNat = i - 1 := by omega
    rw [e1] at hu
    have hv : l[i]? = some v := hv
    have e3 : tltB u v = true := e3
    have e : vtV v = true := e
    have hc : vcell f l i = true := by
      rw [vc_next (by omega) hv hu, e, e3, decide_eq_true (show f ≤ v.r by omega)]
      rfl
    refine ⟨i + 1, [0], ⟨by omega, fun j hj => ?_⟩, by omega, ?_⟩
    · rcases Nat.lt_or_ge j i with h1 | h1
      · exact hall j h1
      · rw [show j = i by omega]; exact hc
    repeat' (first
      | ((conv => whnf); (first
        | refine brK_dec (fun _ => ?_) (fun _ => ?_)
        | refine brK_ndec (fun _ => ?_) (fun _ => ?_)
        | refine brK_not (fun _ => ?_) (fun _ => ?_)
        | refine brK_in (fun _ => ?_) (fun _ => ?_)
        | refine And.intro (by first | exact rfl | exact ⟨_, rfl, rfl⟩ | exact ⟨rfl, rfl, rfl⟩ | exact of_decide_eq_true rfl | exact trivial | assumption | omega | (show (_ ≤ _ ∧ _ ≤ _); omega) | (simp; omega) | exact ⟨by first | omega | (simp; omega), _, rfl, rfl⟩) ?_
        | refine Quo.l (And.intro (by first | exact rfl | assumption | omega | (simp; omega)) ?_)
        | refine Quo.r (And.intro (by omega) ?_)
        | refine Both.mk ?_ ?_
        | refine Exists.intro _ (And.intro rfl ?_)
        | refine optT_use (by assumption) ?_
        | refine trow_use (by assumption) ?_
        | refine trow_in (fun _ _ => ?_)
        | refine fun _ => ?_))
      | exact rfl)
  · rename_i hil v hv e e2 h0
    obtain rfl : i = 0 := by omega
    have hv : l[0]? = some v := hv
    have e : vtV v = true := e
    have hc : vcell f l 0 = true := by
      rw [vc_first hv, e, decide_eq_true (show f ≤ v.r by omega)]
      rfl
    refine ⟨0 + 1, [0], ⟨by omega, fun j hj => ?_⟩, by omega, ?_⟩
    · rw [show j = 0 by omega]; exact hc
    repeat' (first
      | ((conv => whnf); (first
        | refine brK_dec (fun _ => ?_) (fun _ => ?_)
        | refine brK_ndec (fun _ => ?_) (fun _ => ?_)
        | refine brK_not (fun _ => ?_) (fun _ => ?_)
        | refine brK_in (fun _ => ?_) (fun _ => ?_)
        | refine And.intro (by first | exact rfl | exact ⟨_, rfl, rfl⟩ | exact ⟨rfl, rfl, rfl⟩ | exact of_decide_eq_true rfl | exact trivial | assumption | omega | (show (_ ≤ _ ∧ _ ≤ _); omega) | (simp; omega) | exact ⟨by first | omega | (simp; omega), _, rfl, rfl⟩) ?_
        | refine Quo.l (And.intro (by first | exact rfl | assumption | omega | (simp; omega)) ?_)
        | refine Quo.r (And.intro (by omega) ?_)
        | refine Both.mk ?_ ?_
        | refine Exists.intro _ (And.intro rfl ?_)
        | refine optT_use (by assumption) ?_
        | refine trow_use (by assumption) ?_
        | refine trow_in (fun _ _ => ?_)
        | refine fun _ => ?_))
      | exact rfl)
  · rename_i hil q
    have e : vrV f l = decide ((((l.map VtD.row).length : Nat) : Int) ≤ 40) := by
      rw [vr_yes fun k hk => hall k (by omega), q, Bool.true_and]
      exact decide_eq_decide.2 (by omega)
    rw [e] at h
    exact h
  · rename_i hil q
    exact no (by rw [vr_yes fun k hk => hall k (by omega), q, Bool.false_and])
theorem k_impl_VoterValid : Keeps' Try.prog 24 c_spec_VoterValid := by
  refine keeps_of_vc mix TyT_ok (cok_cons k_impl_isFloor Try.func56 rfl rfl (cok_cons k_impl_Vote_valid Try.func25 rfl rfl (cok_cons k_impl_compareVotes Try.func57 rfl rfl cok_nil))) Try.func24 rfl rfl rfl ?_
  intro aargs hs Fs K h
  simp only [c_spec_VoterValid] at h
  split at h
  case h_2 => exact h.elim
  rename_i f rows
  obtain ⟨rfl, l, rfl, hl, h⟩ := h
  have no : ∀ {b : Bool}, vrV f l = b → K (B b) [] [] := fun e => by rw [← e]; exact h
  have hlen : (l.map VtD.row).length = l.length := by simp
  repeat' (first
    | ((conv => whnf); (first
      | refine draw_plan (id := 8) [] [] (.take 0 (.take 1 (.take 2 (.take 3 (.take 4 (.take 5 (.take 6 (.take 7 (.take 8 (.take 9 (.run 10 (.take 11 (.take 12 .done))))))))))))) (by kernel_rfl) (by kernel_rfl) ?_
      | refine brK_dec (fun _ => ?_) (fun _ => ?_)
      | refine brK_ndec (fun _ => ?_) (fun _ => ?_)
      | refine brK_not (fun _ => ?_) (fun _ => ?_)
      | refine brK_in (fun _ => ?_) (fun _ => ?_)
      | refine And.intro (by first | exact rfl | exact ⟨_, rfl, rfl⟩ | exact ⟨rfl, rfl, rfl⟩ | exact of_decide_eq_true rfl | exact trivial | assumption | omega | (show (_ ≤ _ ∧ _ ≤ _); omega) | (simp; omega) | exact ⟨by first | omega | (simp; omega), _, rfl, rfl⟩) ?_
      | refine Quo.l (And.intro (by first | exact rfl | assumption | omega | (simp; omega)) ?_)
      | refine Quo.r (And.intro (by omega) ?_)
      | refine Both.mk ?_ ?_
      | refine Exists.intro _ (And.intro rfl ?_)
      | refine optT_use (by assumption) ?_
      | refine trow_use (by assumption) ?_
      | refine trow_in (fun _ _ => ?_)
      | refine fun _ => ?_))
    | exact rfl)
  · rename_i q
    exact no (by rw [vrV, q, Bool.false_and])
  · rename_i q q2
    exact no (by rw [vrV, decide_eq_false (show ¬ l.length ≤ 40 by omega), Bool.false_and, Bool.and_false])
  rename_i q q2
  refine loop_in (ι := Nat) (fun i => mkS 47 [(1, .ptr 0 0), (2, B false), (16, .sl 3 (l.map VtD.row)), (17, I (l.map VtD.row).length), (18, I i)] [.cells [I f, .sl 3 (l.map VtD.row)]] Fs) (fun i => i ≤ l.length ∧ ∀ k, k < i → vcell f l k = true) (fun i => l.length - i) 0 [0] ⟨Nat.zero_le _, fun j hj => absurd hj (by omega)⟩ ?_ ?_
  · repeat' (first
      | ((conv => whnf); (first
        | refine brK_dec (fun _ => ?_) (fun _ => ?_)
        | refine brK_ndec (fun _ => ?_) (fun _ => ?_)
        | refine brK_not (fun _ => ?_) (fun _ => ?_)
        | refine brK_in (fun _ => ?_) (fun _ => ?_)
        | refine And.intro (by first | exact rfl | exact ⟨_, rfl, rfl⟩ | exact ⟨rfl, rfl, rfl⟩ | exact of_decide_eq_true rfl | exact trivial | assumption | omega | (show (_ ≤ _ ∧ _ ≤ _); omega) | (simp; omega) | exact ⟨by first | omega | (simp; omega), _, rfl, rfl⟩) ?_
        | refine Quo.l (And.intro (by first | exact rfl | assumption | omega | (simp; omega)) ?_)
        | refine Quo.r (And.intro (by omega) ?_)
        | refine Both.mk ?_ ?_
        | refine Exists.intro _ (And.intro rfl ?_)
        | refine optT_use (by assumption) ?_
        | refine trow_use (by assumption) ?_
        | refine trow_in (fun _ _ => ?_)
        | refine fun _ => ?_))
      | exact rfl)
  intro i ⟨hi, hall⟩
  repeat' (first
    | ((conv => whnf); (first
      | refine draw_plan (id := 8) [] [] (.take 0 (.take 1 (.take 2 (.take 3 (.take 4 (.take 5 (.take 6 (.take 7 (.take 8 (.take 9 (.run 10 (.take 11 (.take 12 .done))))))))))))) (by kernel_rfl) (by kernel_rfl) ?_
      | refine brK_dec (fun _ => ?_) (fun _ => ?_)
      | refine brK_ndec (fun _ => ?_) (fun _ => ?_)
      | refine brK_not (fun _ => ?_) (fun _ => ?_)
      | refine brK_in (fun _ => ?_) (fun _ => ?_)
      | refine And.intro (by first | exact rfl | exact ⟨_, rfl, rfl⟩ | exact ⟨rfl, rfl, rfl⟩ | exact of_decide_eq_true rfl | exact trivial | assumption | omega | (show (_ ≤ _ ∧ _ ≤ _); omega) | (simp; omega) | exact ⟨by first | omega | (simp; omega), _, rfl, rfl⟩) ?_
      | refine Quo.l (And.intro (by first | exact rfl | assumption | omega | (simp; omega)) ?_)
      | refine Quo.r (And.intro (by omega) ?_)
      | refine Both.mk ?_ ?_
      | refine Exists.intro _ (And.intro rfl ?_)
      | refine optT_use (by assumption) ?_
      | refine trow_use (by assumption) ?_
      | refine trow_in (fun _ _ => ?_)
      | refine fun _ => ?_))
    | exact rfl)
  · rename_i hil v hv e
    exact no (vr_no (i := i) (by omega) (vc_vt hv e))
  · rename_i hil v hv e e2
    exact no (vr_no (i := i) (by omega) (vc_fl hv (by omega)))
  · rename_i hil v hv e e2 h0 u hu e3
    have e1 : ((i : Int) - 1).toNat = i - 1 := by omega
    rw [e1] at hu
    have hv : l[i]? = some v := hv
    have e3 : tltB u v = false := by
      rw [← cmpT_lt]
      exact decide_eq_false (Int.not_lt.2 e3)
    exact no (vr_no (i := i) (by omega) (by rw [vc_next (by omega) hv hu, e3, Bool.and_false, Bool.and_false]))
  · rename_i hil v hv e e2 h0 u hu e3
    have e1 : ((i : Int) - 1).toNat = i - 1 := by omega
    rw [e1] at hu
    have hv : l[i]? = some v := hv
    have e3 : tltB u v = true := by
      rw [← cmpT_lt]
      exact decide_eq_true (Int.not_le.1 e3)
    have e : vtV v = true := e
    have hc : vcell f l i = true := by
      rw [vc_next (by omega) hv hu, e, e3, decide_eq_true (show f ≤ v.r by omega)]
      rfl
    refine ⟨i + 1, [0], ⟨by omega, fun j hj => ?_⟩, by omega, ?_⟩
    · rcases Nat.lt_or_ge j i with h1 | h1
      · exact hall j h1
      · rw [show j = i by omega]; exact hc
    repeat' (first
      | ((conv => whnf); (first
        | refine brK_dec (fun _ => ?_) (fun _ => ?_)
        | refine brK_ndec (fun _ => ?_) (fun _ => ?_)
        | refine brK_not (fun _ => ?_) (fun _ => ?_)
        | refine brK_in (fun _ => ?_) (fun _ => ?_)
        | refine And.intro (by first | exact rfl | exact ⟨_, rfl, rfl⟩ | exact ⟨rfl, rfl, rfl⟩ | exact of_decide_eq_true rfl | exact trivial | assumption | omega | (show (_ ≤ _ ∧ _ ≤ _); omega) | (simp; omega) | exact ⟨by first | omega | (simp; omega), _, rfl, rfl⟩) ?_
        | refine Quo.l (And.intro (by first | exact rfl | assumption | omega | (simp; omega)) ?_)
        | refine Quo.r (And.intro (by omega) ?_)
        | refine Both.mk ?_ ?_
        | refine Exists.intro _ (And.intro rfl ?_)
        | refine optT_use (by assumption) ?_
        | refine trow_use (by assumption) ?_
        | refine trow_in (fun _ _ => ?_)
        | refine fun _ => ?_))
      | exact rfl)
  · rename_i hil v hv e e2 h0
    obtain rfl : i = 0 := by omega
    have hv : l[0]? = some v := hv
    have e : vtV v = true := e
    have hc : vcell f l 0 = true := by
      rw [vc_first hv, e, decide_eq_true (show f ≤ v.r by omega)]
      rfl
    refine ⟨0 + 1, [0], ⟨by omega, fun j hj => ?_⟩, by omega, ?_⟩
    · rw [show j = 0 by omega]; exact hc
    repeat' (first
      | ((conv => whnf); (first
        | refine brK_dec (fun _ => ?_) (fun _ => ?_)
        | refine brK_ndec (fun _ => ?_) (fun _ => ?_)
        | refine brK_not (fun _ => ?_) (fun _ => ?_)
        | refine brK_in (fun _ => ?_) (fun _ => ?_)
        | refine And.intro (by first | exact rfl | exact ⟨_, rfl, rfl⟩ | exact ⟨rfl, rfl, rfl⟩ | exact of_decide_eq_true rfl | exact trivial | assumption | omega | (show (_ ≤ _ ∧ _ ≤ _); omega) | (simp; omega) | exact ⟨by first | omega | (simp; omega), _, rfl, rfl⟩) ?_
        | refine Quo.l (And.intro (by first | exact rfl | assumption | omega | (simp; omega)) ?_)
        | refine Quo.r (And.intro (by omega) ?_)
        | refine Both.mk ?_ ?_
        | refine Exists.intro _ (And.intro rfl ?_)
        | refine optT_use (by assumption) ?_
        | refine trow_use (by assumption) ?_
        | refine trow_in (fun _ _ => ?_)
        | refine fun _ => ?_))
      | exact rfl)
  · rename_i hil
    exact no (by rw [vr_yes fun k hk => hall k (by omega), q, Bool.true_and]; exact decide_eq_true (by omega))
end Go.Proofs.Ytalbgcpfekmfoaa
