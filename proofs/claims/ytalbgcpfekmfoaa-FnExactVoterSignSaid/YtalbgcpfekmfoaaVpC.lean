/-
The laws' own functions on votes and voters: sizes, copies, comparisons, marks.
No conditions.
-/
import Derived.Test.YtalbgcpfekmfoaaVpB
import Derived.Test.YtalbgcpfekmfoaaVcMH
namespace Go.Proofs.Ytalbgcpfekmfoaa
open Go Go.Vc
set_option maxHeartbeats 4000000
set_option maxRecDepth 10000
def szT (l : Nat) (n : Int) : Int := if n - l < 0 then -1 else n - l
theorem szT_le {l : Nat} {n : Int} (h : ¬ szT l n < 0) : (l : Int) ≤ n := by
  unfold szT at h
  split at h <;> omega
def c_laws_szVoteS : Con := ⟨0, 0, false, fun xs hs _ K => match xs with
  | [.sl 3 l, .val (.int .i64 n)] => hs = [] ∧ l.length ≤ 9223372036854775807 ∧ 0 ≤ n ∧ n ≤ 1048576 ∧ K (I (szT l.length n)) [] []
  | _ => False⟩
theorem k_laws_szVoteS : Keeps' Try.prog 19 c_laws_szVoteS := by
  refine keeps_of_vc mix TyT_ok cok_nil Try.func19 rfl rfl rfl ?_
  intro aargs hs Fs K h
  simp only [c_laws_szVoteS] at h
  split at h
  case h_2 => exact h.elim
  rename_i l n
  obtain ⟨rfl, hl, h0, h1, h⟩ := h
  have no : ∀ {b : Int}, szT l.length n = b → K (I b) [] [] := fun e => by rw [← e]; exact h
  repeat' (first
    | ((conv => whnf); (first
      | refine brK_dec (fun _ => ?_) (fun _ => ?_)
      | refine brK_ndec (fun _ => ?_) (fun _ => ?_)
      | refine brK_not (fun _ => ?_) (fun _ => ?_)
      | refine brK_in (fun _ => ?_) (fun _ => ?_)
      | refine And.intro (by first | exact rfl | exact ⟨_, rfl, rfl⟩ | exact ⟨rfl, rfl, rfl⟩ | exact of_decide_eq_true rfl | exact trivial | assumption | omega | (show (_ ≤ _ ∧ _ ≤ _); omega) | (simp; omega) | exact ⟨by first | omega | (simp; omega), _, rfl, rfl⟩) ?_
      | refine Quo.l (And.intro (by first | exact rfl | assumption | omega | (simp; omega)) ?_)
      | refine Quo.r (And.intro (by omega) ?_)
      | refine Both.mk ?_ ?_
      | refine Exists.intro _ (And.intro rfl ?_)
      | refine optT_use (by assumption) ?_
      | refine trow_use (by assumption) ?_
      | refine trow_in (fun _ _ => ?_)
      | refine fun _ => ?_))
    | exact rfl)
  · rename_i h1; exact no (by simp [szT]; omega)
  · rename_i h1; exact no (by simp [szT]; omega)
def c_laws_szVoter : Con := ⟨0, 0, false, fun xs hs _ K => match xs with
  | [.agg [.val (.int .i64 _), .sl 3 l], .val (.int .i64 n)] => hs = [] ∧ l.length ≤ 9223372036854775807 ∧ 0 ≤ n ∧ n ≤ 1048576 ∧ K (I (szT l.length n)) [] []
  | _ => False⟩
theorem k_laws_szVoter : Keeps' Try.prog 5 c_laws_szVoter := by
  refine keeps_of_vc mix TyT_ok (cok_cons k_laws_szVoteS Try.func19 rfl rfl cok_nil) Try.func5 rfl rfl rfl ?_
  intro aargs hs Fs K h
  simp only [c_laws_szVoter] at h
  split at h
  case h_2 => exact h.elim
  rename_i l n
  obtain ⟨rfl, hl, h0, h1, h⟩ := h
  repeat' (first
    | ((conv => whnf); (first
      | refine brK_dec (fun _ => ?_) (fun _ => ?_)
      | refine brK_ndec (fun _ => ?_) (fun _ => ?_)
      | refine brK_not (fun _ => ?_) (fun _ => ?_)
      | refine brK_in (fun _ => ?_) (fun _ => ?_)
      | refine And.intro (by first | exact rfl | exact ⟨_, rfl, rfl⟩ | exact ⟨rfl, rfl, rfl⟩ | exact of_decide_eq_true rfl | exact trivial | assumption | omega | (show (_ ≤ _ ∧ _ ≤ _); omega) | (simp; omega) | exact ⟨by first | omega | (simp; omega), _, rfl, rfl⟩) ?_
      | refine Quo.l (And.intro (by first | exact rfl | assumption | omega | (simp; omega)) ?_)
      | refine Quo.r (And.intro (by omega) ?_)
      | refine Both.mk ?_ ?_
      | refine Exists.intro _ (And.intro rfl ?_)
      | refine optT_use (by assumption) ?_
      | refine trow_use (by assumption) ?_
      | refine trow_in (fun _ _ => ?_)
      | refine fun _ => ?_))
    | exact rfl)
  · rename_i q
    unfold szT at q h
    split at h
    · exact h
    · rename_i q2
      rw [if_neg q2] at q
      exact absurd q q2
  · exact h
def c_laws_toVote : Con := ⟨0, 0, false, fun xs hs _ K => match xs with
  | [.agg [.val (.int .i64 r), .val (.int .i64 a), .val (.int .i64 d)]] => hs = [] ∧ K (.agg [I r, I a, I d]) [] []
  | _ => False⟩
theorem k_laws_toVote : Keeps' Try.prog 8 c_laws_toVote := by
  refine keeps_of_vc mix TyT_ok cok_nil Try.func8 rfl rfl rfl ?_
  intro aargs hs Fs K h
  simp only [c_laws_toVote] at h
  split at h
  case h_2 => exact h.elim
  rename_i r a d
  obtain ⟨rfl, h⟩ := h
  repeat' (first
    | ((conv => whnf); (first
      | refine brK_dec (fun _ => ?_) (fun _ => ?_)
      | refine brK_ndec (fun _ => ?_) (fun _ => ?_)
      | refine brK_not (fun _ => ?_) (fun _ => ?_)
      | refine brK_in (fun _ => ?_) (fun _ => ?_)
      | refine And.intro (by first | exact rfl | exact ⟨_, rfl, rfl⟩ | exact ⟨rfl, rfl, rfl⟩ | exact of_decide_eq_true rfl | exact trivial | assumption | omega | (show (_ ≤ _ ∧ _ ≤ _); omega) | (simp; omega) | exact ⟨by first | omega | (simp; omega), _, rfl, rfl⟩) ?_
      | refine Quo.l (And.intro (by first | exact rfl | assumption | omega | (simp; omega)) ?_)
      | refine Quo.r (And.intro (by omega) ?_)
      | refine Both.mk ?_ ?_
      | refine Exists.intro _ (And.intro rfl ?_)
      | refine optT_use (by assumption) ?_
      | refine trow_use (by assumption) ?_
      | refine trow_in (fun _ _ => ?_)
      | refine fun _ => ?_))
    | exact rfl)
  exact h
/-- The rows while they are copied. -/
def toT (l : List VtD) (i : Nat) : List (List AV) := (l.take i).map VtD.row ++ List.replicate (l.length - i) [I 0, I 0, I 0]
theorem toT_zero (l : List VtD) : toT l 0 = List.replicate l.length [I 0, I 0, I 0] := by simp [toT]
theorem toT_all (l : List VtD) : toT l l.length = l.map VtD.row := by simp [toT]
theorem toT_len {l : List VtD} {i : Nat} (h : i ≤ l.length) : (toT l i).length = l.length := by
  simp [toT]
  omega
theorem toT_set {l : List VtD} {i : Nat} {v : VtD} (hv : l[i]? = some v) : (toT l i).set i v.row = toT l (i + 1) := by
  obtain ⟨hi, _⟩ := List.getElem?_eq_some_iff.1 hv
  have e : l.length - i = (l.length - (i + 1)) + 1 := by omega
  have e1 : ((l.take i).map VtD.row).length = i := by simp; omega
  unfold toT
  rw [List.take_add_one, hv, e, List.replicate_succ, List.set_append, if_neg (by omega), e1, Nat.sub_self, List.set_cons_zero, List.map_append]
  simp
theorem toT_at {l : List VtD} {i : Nat} {e : List AV} (hi : i < l.length) (h : (toT l i)[i]? = some e) : e = [I 0, I 0, I 0] := by
  have e1 : ((l.take i).map VtD.row).length = i := by simp; omega
  unfold toT at h
  rw [List.getElem?_append_right (by omega), e1, Nat.sub_self, List.getElem?_replicate] at h
  split at h
  · exact (Option.some.inj h).symm
  · cases h
def c_laws_toVoteS : Con := ⟨1, 0, false, fun xs hs _ K => match xs with
  | [.sl 3 rows] => ∃ l : List VtD, rows = l.map VtD.row ∧ hs = [] ∧ l.length ≤ 1048576 ∧ K (.own 0) [.arr 3 (l.map VtD.row)] []
  | _ => False⟩
theorem k_laws_toVoteS : Keeps' Try.prog 23 c_laws_toVoteS := by
  refine keeps_of_vc mix TyT_ok (cok_cons k_laws_toVote Try.func8 rfl rfl cok_nil) Try.func23 rfl rfl rfl ?_
  intro aargs hs Fs K h
  simp only [c_laws_toVoteS] at h
  split at h
  case h_2 => exact h.elim
  rename_i rows
  obtain ⟨l, rfl, rfl, hl, h⟩ := h
  have hlen : (l.map VtD.row).length = l.length := by simp
  repeat' (first
    | ((conv => whnf); (first
      | refine brK_dec (fun _ => ?_) (fun _ => ?_)
      | refine brK_ndec (fun _ => ?_) (fun _ => ?_)
      | refine brK_not (fun _ => ?_) (fun _ => ?_)
      | refine brK_in (fun _ => ?_) (fun _ => ?_)
      | refine And.intro (by first | exact rfl | exact ⟨_, rfl, rfl⟩ | exact ⟨rfl, rfl, rfl⟩ | exact of_decide_eq_true rfl | exact trivial | assumption | omega | (show (_ ≤ _ ∧ _ ≤ _); omega) | (simp; omega) | exact ⟨by first | omega | (simp; omega), _, rfl, rfl⟩) ?_
      | refine Quo.l (And.intro (by first | exact rfl | assumption | omega | (simp; omega)) ?_)
      | refine Quo.r (And.intro (by omega) ?_)
      | refine Both.mk ?_ ?_
      | refine Exists.intro _ (And.intro rfl ?_)
      | refine optT_use (by assumption) ?_
      | refine trow_use (by assumption) ?_
      | refine trow_in (fun _ _ => ?_)
      | refine fun _ => ?_))
    | exact rfl)
  refine loop_in (ι := Nat) (fun i => mkS 23 [(0, .sl 3 (l.map VtD.row)), (3, .own 0), (4, I i)] [.arr 3 (toT l i)] Fs) (fun i => i ≤ l.length) (fun i => l.length - i) 0 [0] (Nat.zero_le _) ?_ ?_
  · repeat' (first
      | ((conv => whnf); (first
        | refine brK_dec (fun _ => ?_) (fun _ => ?_)
        | refine brK_ndec (fun _ => ?_) (fun _ => ?_)
        | refine brK_not (fun _ => ?_) (fun _ => ?_)
        | refine brK_in (fun _ => ?_) (fun _ => ?_)
        | refine And.intro (by first | exact rfl | exact (by first | (rw [toT_zero, hlen]; done) | (rw [toT_zero, hlen]; rfl) | exact (toT_zero l)) | exact ⟨_, rfl, rfl⟩ | exact ⟨rfl, rfl, rfl⟩ | exact of_decide_eq_true rfl | exact trivial | assumption | omega | (show (_ ≤ _ ∧ _ ≤ _); omega) | (simp; omega) | exact ⟨by first | omega | (simp; omega), _, rfl, rfl⟩) ?_
        | refine Quo.l (And.intro (by first | exact rfl | exact (by first | (rw [toT_zero, hlen]; done) | (rw [toT_zero, hlen]; rfl) | exact (toT_zero l)) | assumption | omega | (simp; omega)) ?_)
        | refine Quo.r (And.intro (by omega) ?_)
        | refine Both.mk ?_ ?_
        | refine Exists.intro _ (And.intro rfl ?_)
        | refine optT_use (by assumption) ?_
        | refine trow_use (by assumption) ?_
        | refine trow_in (fun _ _ => ?_)
        | refine fun _ => ?_))
      | exact rfl)
  intro i hi
  have hrl := toT_len hi
  repeat' (first
    | ((conv => whnf); (first
      | refine brK_dec (fun _ => ?_) (fun _ => ?_)
      | refine brK_ndec (fun _ => ?_) (fun _ => ?_)
      | refine brK_not (fun _ => ?_) (fun _ => ?_)
      | refine brK_in (fun _ => ?_) (fun _ => ?_)
      | refine And.intro (by first | exact rfl | exact (⟨by omega, _, rfl, rfl⟩) | exact ⟨_, rfl, rfl⟩ | exact ⟨rfl, rfl, rfl⟩ | exact of_decide_eq_true rfl | exact trivial | assumption | omega | (show (_ ≤ _ ∧ _ ≤ _); omega) | (simp; omega) | exact ⟨by first | omega | (simp; omega), _, rfl, rfl⟩) ?_
      | refine Quo.l (And.intro (by first | exact rfl | exact (⟨by omega, _, rfl, rfl⟩) | assumption | omega | (simp; omega)) ?_)
      | refine Quo.r (And.intro (by omega) ?_)
      | refine Both.mk ?_ ?_
      | refine Exists.intro _ (And.intro rfl ?_)
      | refine optT_use (by assumption) ?_
      | refine trow_use (by assumption) ?_
      | refine trow_in (fun _ _ => ?_)
      | refine fun _ => ?_))
    | exact rfl)
  · rename_i hil v hv e he
    have hv : l[i]? = some v := hv
    obtain rfl := toT_at (by omega) he
    refine ⟨i + 1, [0], by omega, by omega, ?_⟩
    repeat' (first
      | ((conv => whnf); (first
        | refine brK_dec (fun _ => ?_) (fun _ => ?_)
        | refine brK_ndec (fun _ => ?_) (fun _ => ?_)
        | refine brK_not (fun _ => ?_) (fun _ => ?_)
        | refine brK_in (fun _ => ?_) (fun _ => ?_)
        | refine And.intro (by first | exact rfl | exact ((toT_set hv).symm) | exact ⟨_, rfl, rfl⟩ | exact ⟨rfl, rfl, rfl⟩ | exact of_decide_eq_true rfl | exact trivial | assumption | omega | (show (_ ≤ _ ∧ _ ≤ _); omega) | (simp; omega) | exact ⟨by first | omega | (simp; omega), _, rfl, rfl⟩) ?_
        | refine Quo.l (And.intro (by first | exact rfl | exact ((toT_set hv).symm) | assumption | omega | (simp; omega)) ?_)
        | refine Quo.r (And.intro (by omega) ?_)
        | refine Both.mk ?_ ?_
        | refine Exists.intro _ (And.intro rfl ?_)
        | refine optT_use (by assumption) ?_
        | refine trow_use (by assumption) ?_
        | refine trow_in (fun _ _ => ?_)
        | refine fun _ => ?_))
      | exact rfl)
  · rename_i hil
    obtain rfl : i = l.length := by omega
    rw [toT_all]
    exact ⟨⟨rfl, by simp [roFreeB, VtD.row, roFreeC], rfl⟩, h⟩
def c_laws_toVoter : Con := ⟨1, 0, false, fun xs hs _ K => match xs with
  | [.agg [.val (.int .i64 f), .sl 3 rows]] => ∃ l : List VtD, rows = l.map VtD.row ∧ hs = [] ∧ l.length ≤ 1048576 ∧ K (.agg [I f, .own 0]) [.arr 3 (l.map VtD.row)] []
  | _ => False⟩
theorem k_laws_toVoter : Keeps' Try.prog 7 c_laws_toVoter := by
  refine keeps_of_vc mix TyT_ok (cok_cons k_laws_toVoteS Try.func23 rfl rfl cok_nil) Try.func7 rfl rfl rfl ?_
  intro aargs hs Fs K h
  simp only [c_laws_toVoter] at h
  split at h
  case h_2 => exact h.elim
  rename_i f rows
  obtain ⟨l, rfl, rfl, hl, h⟩ := h
  repeat' (first
    | ((conv => whnf); (first
      | refine brK_dec (fun _ => ?_) (fun _ => ?_)
      | refine brK_ndec (fun _ => ?_) (fun _ => ?_)
      | refine brK_not (fun _ => ?_) (fun _ => ?_)
      | refine brK_in (fun _ => ?_) (fun _ => ?_)
      | refine And.intro (by first | exact rfl | exact ⟨_, rfl, rfl⟩ | exact ⟨rfl, rfl, rfl⟩ | exact of_decide_eq_true rfl | exact trivial | assumption | omega | (show (_ ≤ _ ∧ _ ≤ _); omega) | (simp; omega) | exact ⟨by first | omega | (simp; omega), _, rfl, rfl⟩) ?_
      | refine Quo.l (And.intro (by first | exact rfl | assumption | omega | (simp; omega)) ?_)
      | refine Quo.r (And.intro (by omega) ?_)
      | refine Both.mk ?_ ?_
      | refine Exists.intro _ (And.intro rfl ?_)
      | refine optT_use (by assumption) ?_
      | refine trow_use (by assumption) ?_
      | refine trow_in (fun _ _ => ?_)
      | refine fun _ => ?_))
    | exact rfl)
  all_goals first
    | exact h
    | exact ⟨⟨rfl, by simp [roFreeB, VtD.row, roFreeC], rfl⟩, h⟩
def c_laws_eqVote : Con := ⟨0, 0, false, fun xs hs _ K => match xs with
  | [.agg [.val (.int .i64 r), .val (.int .i64 a), .val (.int .i64 d)], .agg [.val (.int .i64 r'), .val (.int .i64 a'), .val (.int .i64 d')]] => hs = [] ∧ r = r' ∧ a = a' ∧ d = d' ∧ K (B true) [] []
  | _ => False⟩
theorem k_laws_eqVote : Keeps' Try.prog 64 c_laws_eqVote := by
  refine keeps_of_vc mix TyT_ok cok_nil Try.func64 rfl rfl rfl ?_
  intro aargs hs Fs K h
  simp only [c_laws_eqVote] at h
  split at h
  case h_2 => exact h.elim
  rename_i r a d r' a' d'
  obtain ⟨rfl, rfl, rfl, rfl, h⟩ := h
  repeat' (first
    | ((conv => whnf); (first
      | refine brK_dec (fun _ => ?_) (fun _ => ?_)
      | refine brK_ndec (fun _ => ?_) (fun _ => ?_)
      | refine brK_not (fun _ => ?_) (fun _ => ?_)
      | refine brK_in (fun _ => ?_) (fun _ => ?_)
      | refine And.intro (by first | exact rfl | exact ⟨_, rfl, rfl⟩ | exact ⟨rfl, rfl, rfl⟩ | exact of_decide_eq_true rfl | exact trivial | assumption | omega | (show (_ ≤ _ ∧ _ ≤ _); omega) | (simp; omega) | exact ⟨by first | omega | (simp; omega), _, rfl, rfl⟩) ?_
      | refine Quo.l (And.intro (by first | exact rfl | assumption | omega | (simp; omega)) ?_)
      | refine Quo.r (And.intro (by omega) ?_)
      | refine Both.mk ?_ ?_
      | refine Exists.intro _ (And.intro rfl ?_)
      | refine optT_use (by assumption) ?_
      | refine trow_use (by assumption) ?_
      | refine trow_in (fun _ _ => ?_)
      | refine fun _ => ?_))
    | exact rfl)
  all_goals first
    | exact h
    | (rename_i e; exact absurd rfl e)
def c_laws_eqVoteS : Con := ⟨0, 0, false, fun xs hs _ K => match xs with
  | [.sl 3 a, .sl 3 b] => hs = [] ∧ a = b ∧ ∃ l : List VtD, a = l.map VtD.row ∧ l.length < 2000000 ∧ K (B true) [] []
  | _ => False⟩
theorem k_laws_eqVoteS : Keeps' Try.prog 32 c_laws_eqVoteS := by
  refine keeps_of_vc mix TyT_ok (cok_cons k_laws_eqVote Try.func64 rfl rfl cok_nil) Try.func32 rfl rfl rfl ?_
  intro aargs hs Fs K h
  simp only [c_laws_eqVoteS] at h
  split at h
  case h_2 => exact h.elim
  rename_i a b
  obtain ⟨rfl, rfl, l, rfl, hl, h⟩ := h
  have hlen : (l.map VtD.row).length = l.length := by simp
  repeat' (first
    | ((conv => whnf); (first
      | refine draw_plan (id := 6) [] [] (.take 0 (.take 1 (.take 2 (.take 3 (.take 4 (.take 5 (.take 6 (.take 7 (.run 8 (.take 9 .done)))))))))) (by kernel_rfl) (by kernel_rfl) ?_
      | refine brK_dec (fun _ => ?_) (fun _ => ?_)
      | refine brK_ndec (fun _ => ?_) (fun _ => ?_)
      | refine brK_not (fun _ => ?_) (fun _ => ?_)
      | refine brK_in (fun _ => ?_) (fun _ => ?_)
      | refine And.intro (by first | exact rfl | exact ⟨_, rfl, rfl⟩ | exact ⟨rfl, rfl, rfl⟩ | exact of_decide_eq_true rfl | exact trivial | assumption | omega | (show (_ ≤ _ ∧ _ ≤ _); omega) | (simp; omega) | exact ⟨by first | omega | (simp; omega), _, rfl, rfl⟩) ?_
      | refine Quo.l (And.intro (by first | exact rfl | assumption | omega | (simp; omega)) ?_)
      | refine Quo.r (And.intro (by omega) ?_)
      | refine Both.mk ?_ ?_
      | refine Exists.intro _ (And.intro rfl ?_)
      | refine optT_use (by assumption) ?_
      | refine trow_use (by assumption) ?_
      | refine trow_in (fun _ _ => ?_)
      | refine fun _ => ?_))
    | exact rfl)
  · rename_i q
    exact absurd rfl q
  refine loop_in (ι := Nat) (fun i => mkS 27 [(0, .sl 3 (l.map VtD.row)), (1, .sl 3 (l.map VtD.row)), (4, B false), (5, I i)] [] Fs) (fun i => i ≤ l.length) (fun i => l.length - i) 0 [] (Nat.zero_le _) ?_ ?_
  · repeat' (first
      | ((conv => whnf); (first
        | refine brK_dec (fun _ => ?_) (fun _ => ?_)
        | refine brK_ndec (fun _ => ?_) (fun _ => ?_)
        | refine brK_not (fun _ => ?_) (fun _ => ?_)
        | refine brK_in (fun _ => ?_) (fun _ => ?_)
        | refine And.intro (by first | exact rfl | exact ⟨_, rfl, rfl⟩ | exact ⟨rfl, rfl, rfl⟩ | exact of_decide_eq_true rfl | exact trivial | assumption | omega | (show (_ ≤ _ ∧ _ ≤ _); omega) | (simp; omega) | exact ⟨by first | omega | (simp; omega), _, rfl, rfl⟩) ?_
        | refine Quo.l (And.intro (by first | exact rfl | assumption | omega | (simp; omega)) ?_)
        | refine Quo.r (And.intro (by omega) ?_)
        | refine Both.mk ?_ ?_
        | refine Exists.intro _ (And.intro rfl ?_)
        | refine optT_use (by assumption) ?_
        | refine trow_use (by assumption) ?_
        | refine trow_in (fun _ _ => ?_)
        | refine fun _ => ?_))
      | exact rfl)
  intro i hi
  rcases Nat.lt_or_ge i l.length with hil | hil
  · obtain ⟨x, hx⟩ : ∃ x, l[((i : Nat) : Int).toNat]? = some x := ⟨_, List.getElem?_eq_getElem hil⟩
    repeat' (first
      | ((conv => whnf); (first
        | refine draw_plan (id := 6) [] [] (.take 0 (.take 1 (.take 2 (.take 3 (.take 4 (.take 5 (.take 6 (.take 7 (.run 8 (.take 9 .done)))))))))) (by kernel_rfl) (by kernel_rfl) ?_
        | refine brK_dec (fun _ => ?_) (fun _ => ?_)
        | refine brK_ndec (fun _ => ?_) (fun _ => ?_)
        | refine brK_not (fun _ => ?_) (fun _ => ?_)
        | refine brK_in (fun _ => ?_) (fun _ => ?_)
        | refine And.intro (by first | exact rfl | exact ⟨_, rfl, rfl⟩ | exact ⟨rfl, rfl, rfl⟩ | exact of_decide_eq_true rfl | exact trivial | assumption | omega | (show (_ ≤ _ ∧ _ ≤ _); omega) | (simp; omega) | exact ⟨by first | omega | (simp; omega), _, rfl, rfl⟩) ?_
        | refine Quo.l (And.intro (by first | exact rfl | assumption | omega | (simp; omega)) ?_)
        | refine Quo.r (And.intro (by omega) ?_)
        | refine Both.mk ?_ ?_
        | refine Exists.intro _ (And.intro rfl ?_)
        | refine optT_use (by assumption) ?_
        | refine trow_use (by assumption) ?_
        | refine trow_in (fun _ _ => ?_)
        | refine fun _ => ?_))
      | exact rfl)
    · refine ⟨i + 1, [], by omega, by omega, ?_⟩
      repeat' (first
        | ((conv => whnf); (first
          | refine brK_dec (fun _ => ?_) (fun _ => ?_)
          | refine brK_ndec (fun _ => ?_) (fun _ => ?_)
          | refine brK_not (fun _ => ?_) (fun _ => ?_)
          | refine brK_in (fun _ => ?_) (fun _ => ?_)
          | refine And.intro (by first | exact rfl | exact ⟨_, rfl, rfl⟩ | exact ⟨rfl, rfl, rfl⟩ | exact of_decide_eq_true rfl | exact trivial | assumption | omega | (show (_ ≤ _ ∧ _ ≤ _); omega) | (simp; omega) | exact ⟨by first | omega | (simp; omega), _, rfl, rfl⟩) ?_
          | refine Quo.l (And.intro (by first | exact rfl | assumption | omega | (simp; omega)) ?_)
          | refine Quo.r (And.intro (by omega) ?_)
          | refine Both.mk ?_ ?_
          | refine Exists.intro _ (And.intro rfl ?_)
          | refine optT_use (by assumption) ?_
          | refine trow_use (by assumption) ?_
          | refine trow_in (fun _ _ => ?_)
          | refine fun _ => ?_))
        | exact rfl)
    · omega
  · repeat' (first
      | ((conv => whnf); (first
        | refine draw_plan (id := 6) [] [] (.take 0 (.take 1 (.take 2 (.take 3 (.take 4 (.take 5 (.take 6 (.take 7 (.run 8 (.take 9 .done)))))))))) (by kernel_rfl) (by kernel_rfl) ?_
        | refine brK_dec (fun _ => ?_) (fun _ => ?_)
        | refine brK_ndec (fun _ => ?_) (fun _ => ?_)
        | refine brK_not (fun _ => ?_) (fun _ => ?_)
        | refine brK_in (fun _ => ?_) (fun _ => ?_)
        | refine And.intro (by first | exact rfl | exact ⟨_, rfl, rfl⟩ | exact ⟨rfl, rfl, rfl⟩ | exact of_decide_eq_true rfl | exact trivial | assumption | omega | (show (_ ≤ _ ∧ _ ≤ _); omega) | (simp; omega) | exact ⟨by first | omega | (simp; omega), _, rfl, rfl⟩) ?_
        | refine Quo.l (And.intro (by first | exact rfl | assumption | omega | (simp; omega)) ?_)
        | refine Quo.r (And.intro (by omega) ?_)
        | refine Both.mk ?_ ?_
        | refine Exists.intro _ (And.intro rfl ?_)
        | refine optT_use (by assumption) ?_
        | refine trow_use (by assumption) ?_
        | refine trow_in (fun _ _ => ?_)
        | refine fun _ => ?_))
      | exact rfl)
    · omega
    exact h
def c_laws_eqVoter : Con := ⟨0, 0, false, fun xs hs _ K => match xs with
  | [.agg [.val (.int .i64 f), .sl 3 a], .agg [.val (.int .i64 f'), .sl 3 b]] => hs = [] ∧ f = f' ∧ a = b ∧ ∃ l : List VtD, a = l.map VtD.row ∧ l.length < 2000000 ∧ K (B true) [] []
  | _ => False⟩
theorem k_laws_eqVoter : Keeps' Try.prog 10 c_laws_eqVoter := by
  refine keeps_of_vc mix TyT_ok (cok_cons k_laws_eqVoteS Try.func32 rfl rfl cok_nil) Try.func10 rfl rfl rfl ?_
  intro aargs hs Fs K h
  simp only [c_laws_eqVoter] at h
  split at h
  case h_2 => exact h.elim
  rename_i f a f' b
  obtain ⟨rfl, rfl, rfl, l, rfl, hl, h⟩ := h
  repeat' (first
    | ((conv => whnf); (first
      | refine brK_dec (fun _ => ?_) (fun _ => ?_)
      | refine brK_ndec (fun _ => ?_) (fun _ => ?_)
      | refine brK_not (fun _ => ?_) (fun _ => ?_)
      | refine brK_in (fun _ => ?_) (fun _ => ?_)
      | refine And.intro (by first | exact rfl | exact ⟨_, rfl, rfl⟩ | exact ⟨rfl, rfl, rfl⟩ | exact of_decide_eq_true rfl | exact trivial | assumption | omega | (show (_ ≤ _ ∧ _ ≤ _); omega) | (simp; omega) | exact ⟨by first | omega | (simp; omega), _, rfl, rfl⟩) ?_
      | refine Quo.l (And.intro (by first | exact rfl | assumption | omega | (simp; omega)) ?_)
      | refine Quo.r (And.intro (by omega) ?_)
      | refine Both.mk ?_ ?_
      | refine Exists.intro _ (And.intro rfl ?_)
      | refine optT_use (by assumption) ?_
      | refine trow_use (by assumption) ?_
      | refine trow_in (fun _ _ => ?_)
      | refine fun _ => ?_))
    | exact rfl)
  all_goals first
    | exact h
    | (rename_i q; exact absurd rfl q)
def mkT (k : Int) (n : Nat) : List VtD := (List.range n).map fun (i : Nat) => ⟨k + 3 * (i : Int), k + 3 * (i : Int) + 1, k + 3 * (i : Int) + 1 + 1⟩
theorem mkT_len (k : Int) (n : Nat) : (mkT k n).length = n := by simp [mkT]
theorem mkT_get {k : Int} {n i : Nat} {x : VtD} (h : (mkT k n)[i]? = some x) : x = ⟨k + 3 * i, k + 3 * i + 1, k + 3 * i + 1 + 1⟩ := by
  simp only [mkT, List.getElem?_map] at h
  obtain ⟨y, h1, rfl⟩ := Option.map_eq_some_iff.1 h
  rw [List.getElem?_range (by have := (List.getElem?_eq_some_iff.1 h1).1; simpa using this)] at h1
  simp at h1
  rw [h1]
/-- The rows while they are marked. -/
def mtRows (k : Int) (S : List VtD) (i : Nat) : List (List AV) := (mkT k i ++ S.drop i).map VtD.row
theorem mtRows_len {k : Int} {S : List VtD} {i : Nat} (hi : i ≤ S.length) : (mtRows k S i).length = S.length := by
  simp [mtRows, mkT_len]
  omega
theorem mtRows_zero (k : Int) (S : List VtD) : mtRows k S 0 = S.map VtD.row := by simp [mtRows, mkT]
theorem mtRows_all {k : Int} {S : List VtD} : mtRows k S S.length = (mkT k S.length).map VtD.row := by simp [mtRows]
theorem mtRows_next {k : Int} {S : List VtD} {i : Nat} (hi : i < S.length) : (mtRows k S i).set i [I (k + 3 * i), I (k + 3 * i + 1), I (k + 3 * i + 1 + 1)] = mtRows k S (i + 1) := by
  have e1 := mkT_len k i
  unfold mtRows
  have : [I (k + 3 * (i : Int)), I (k + 3 * (i : Int) + 1), I (k + 3 * (i : Int) + 1 + 1)] = VtD.row ⟨k + 3 * i, k + 3 * i + 1, k + 3 * i + 1 + 1⟩ := rfl
  rw [this, ← List.map_set]
  congr 1
  rw [List.set_append, if_neg (by omega), e1, Nat.sub_self, List.drop_eq_getElem_cons hi, List.set_cons_zero]
  simp [mkT, List.range_succ]
theorem mtRows_at {k : Int} {S : List VtD} {i : Nat} {e : List AV} (_hi : i < S.length) (h : (mtRows k S i)[i]? = some e) : ∃ p, S[i]? = some p ∧ e = VtD.row p := by
  unfold mtRows at h
  rw [List.getElem?_map, List.getElem?_append_right (by rw [mkT_len]; exact Nat.le_refl _), mkT_len, Nat.sub_self, List.getElem?_drop] at h
  obtain ⟨p, hp, rfl⟩ := Option.map_eq_some_iff.1 h
  exact ⟨p, by simpa using hp, rfl⟩
theorem setT_at {l : List (List AV)} {i : Nat} {r e : List AV} (h : (l.set i r)[i]? = some e) : e = r := by
  rw [List.getElem?_set] at h
  split at h
  · split at h
    · exact (Option.some.inj h).symm
    · cases h
  · rename_i q; exact absurd rfl q
def c_laws_markVoteS : Con := ⟨0, 3, false, fun xs hs _ K => match xs, hs with
  | [.own 0, .val (.int .i64 k)], [.arr 3 rows] => ∃ S : List VtD, rows = S.map VtD.row ∧ 0 ≤ k ∧ k ≤ 100000000 ∧ S.length < 2000000 ∧ K (I (k + 3 * S.length)) [.arr 3 ((mkT k S.length).map VtD.row)] []
  | _, _ => False⟩
theorem k_laws_markVoteS : Keeps' Try.prog 33 c_laws_markVoteS := by
  refine keeps_of_vc mix TyT_ok (cok_stay cok_nil) Try.func33 rfl rfl rfl ?_
  intro aargs hs Fs K h
  simp only [c_laws_markVoteS] at h
  split at h
  case h_2 => exact h.elim
  rename_i k rows
  obtain ⟨S, rfl, h0, h1, hl, h⟩ := h
  repeat' (first
    | ((conv => whnf); (first
      | refine brK_dec (fun _ => ?_) (fun _ => ?_)
      | refine brK_ndec (fun _ => ?_) (fun _ => ?_)
      | refine brK_not (fun _ => ?_) (fun _ => ?_)
      | refine brK_in (fun _ => ?_) (fun _ => ?_)
      | refine And.intro (by first | exact rfl | exact ⟨_, rfl, rfl⟩ | exact ⟨rfl, rfl, rfl⟩ | exact of_decide_eq_true rfl | exact trivial | assumption | omega | (show (_ ≤ _ ∧ _ ≤ _); omega) | (simp; omega) | exact ⟨by first | omega | (simp; omega), _, rfl, rfl⟩) ?_
      | refine Quo.l (And.intro (by first | exact rfl | assumption | omega | (simp; omega)) ?_)
      | refine Quo.r (And.intro (by omega) ?_)
      | refine Both.mk ?_ ?_
      | refine Exists.intro _ (And.intro rfl ?_)
      | refine fun _ => ?_))
    | exact rfl)
  refine loop_in (ι := Nat) (fun i => mkS 34 [(0, .own 0), (1, I (k + 3 * i)), (4, I 0), (5, I i)] [.arr 3 (mtRows k S i)] Fs) (fun i => i ≤ S.length) (fun i => S.length - i) 0 [0] (Nat.zero_le _) ?_ ?_
  · repeat' (first
      | ((conv => whnf); (first
        | refine brK_dec (fun _ => ?_) (fun _ => ?_)
        | refine brK_ndec (fun _ => ?_) (fun _ => ?_)
        | refine brK_not (fun _ => ?_) (fun _ => ?_)
        | refine brK_in (fun _ => ?_) (fun _ => ?_)
        | refine And.intro (by first | exact rfl | exact (mtRows_zero k S) | exact ⟨_, rfl, rfl⟩ | exact ⟨rfl, rfl, rfl⟩ | exact of_decide_eq_true rfl | exact trivial | assumption | omega | (show (_ ≤ _ ∧ _ ≤ _); omega) | (simp; omega) | exact ⟨by first | omega | (simp; omega), _, rfl, rfl⟩) ?_
        | refine Quo.l (And.intro (by first | exact rfl | exact (mtRows_zero k S) | assumption | omega | (simp; omega)) ?_)
        | refine Quo.r (And.intro (by omega) ?_)
        | refine Both.mk ?_ ?_
        | refine Exists.intro _ (And.intro rfl ?_)
        | refine fun _ => ?_))
      | exact rfl)
  intro i hi
  have hrl := mtRows_len (k := k) hi
  rcases Nat.lt_or_ge i S.length with hil | hil
  · repeat' (first
      | ((conv => whnf); (first
        | refine brK_dec (fun _ => ?_) (fun _ => ?_)
        | refine brK_ndec (fun _ => ?_) (fun _ => ?_)
        | refine brK_not (fun _ => ?_) (fun _ => ?_)
        | refine brK_in (fun _ => ?_) (fun _ => ?_)
        | refine And.intro (by first | exact rfl | exact ⟨_, rfl, rfl⟩ | exact ⟨rfl, rfl, rfl⟩ | exact of_decide_eq_true rfl | exact trivial | assumption | omega | (show (_ ≤ _ ∧ _ ≤ _); omega) | (simp; omega) | exact ⟨by first | omega | (simp; omega), _, rfl, rfl⟩) ?_
        | refine Quo.l (And.intro (by first | exact rfl | assumption | omega | (simp; omega)) ?_)
        | refine Quo.r (And.intro (by omega) ?_)
        | refine Both.mk ?_ ?_
        | refine Exists.intro _ (And.intro rfl ?_)
        | refine fun _ => ?_))
      | exact rfl)
    · rename_i e he e2 he2 e3 he3
      obtain ⟨p, hp, rfl⟩ := mtRows_at hil he
      obtain rfl := setT_at he2
      obtain rfl := setT_at he3
      have e1 : (((mtRows k S i).set ((i : Nat) : Int).toNat (splice (VtD.row p) 0 [I (k + 3 * i)])).set ((i : Nat) : Int).toNat (splice (splice (VtD.row p) 0 [I (k + 3 * i)]) 1 [I (k + 3 * i + 1)])).set ((i : Nat) : Int).toNat (splice (splice (splice (VtD.row p) 0 [I (k + 3 * i)]) 1 [I (k + 3 * i + 1)]) 2 [I (k + 3 * i + 1 + 1)]) = mtRows k S (i + 1) := by
        rw [List.set_set, List.set_set]
        exact mtRows_next hil
      refine ⟨i + 1, [0], by omega, by omega, ?_⟩
      repeat' (first
        | ((conv => whnf); (first
          | refine brK_dec (fun _ => ?_) (fun _ => ?_)
          | refine brK_ndec (fun _ => ?_) (fun _ => ?_)
          | refine brK_not (fun _ => ?_) (fun _ => ?_)
          | refine brK_in (fun _ => ?_) (fun _ => ?_)
          | refine And.intro (by first | exact rfl | exact e1.symm | exact ⟨_, rfl, rfl⟩ | exact ⟨rfl, rfl, rfl⟩ | exact of_decide_eq_true rfl | exact trivial | assumption | omega | (show (_ ≤ _ ∧ _ ≤ _); omega) | (simp; omega) | exact ⟨by first | omega | (simp; omega), _, rfl, rfl⟩) ?_
          | refine Quo.l (And.intro (by first | exact rfl | exact e1.symm | assumption | omega | (simp; omega)) ?_)
          | refine Quo.r (And.intro (by omega) ?_)
          | refine Both.mk ?_ ?_
          | refine Exists.intro _ (And.intro rfl ?_)
          | refine fun _ => ?_))
        | exact rfl)
    · omega
  · repeat' (first
      | ((conv => whnf); (first
        | refine brK_dec (fun _ => ?_) (fun _ => ?_)
        | refine brK_ndec (fun _ => ?_) (fun _ => ?_)
        | refine brK_not (fun _ => ?_) (fun _ => ?_)
        | refine brK_in (fun _ => ?_) (fun _ => ?_)
        | refine And.intro (by first | exact rfl | exact ⟨_, rfl, rfl⟩ | exact ⟨rfl, rfl, rfl⟩ | exact of_decide_eq_true rfl | exact trivial | assumption | omega | (show (_ ≤ _ ∧ _ ≤ _); omega) | (simp; omega) | exact ⟨by first | omega | (simp; omega), _, rfl, rfl⟩) ?_
        | refine Quo.l (And.intro (by first | exact rfl | assumption | omega | (simp; omega)) ?_)
        | refine Quo.r (And.intro (by omega) ?_)
        | refine Both.mk ?_ ?_
        | refine Exists.intro _ (And.intro rfl ?_)
        | refine fun _ => ?_))
      | exact rfl)
    · omega
    obtain rfl : i = S.length := by omega
    rw [mtRows_all]
    exact ⟨⟨rfl, by simp [roFreeB, VtD.row, roFreeC], rfl⟩, h⟩
def c_laws_markVoteSN : Con := ⟨0, 3, false, fun xs hs _ K => match xs, hs with
  | [.val (.slice none 0 0), .val (.int .i64 k)], [] => K (I k) [] []
  | _, _ => False⟩
theorem k_laws_markVoteS_n : Keeps' Try.prog 33 c_laws_markVoteSN := by
  refine keeps_of_vc mix TyT_ok (cok_stay cok_nil) Try.func33 rfl rfl rfl ?_
  intro aargs hs Fs K h
  simp only [c_laws_markVoteSN] at h
  split at h
  case h_2 => exact h.elim
  rename_i k
  repeat' (first
    | ((conv => whnf); (first
      | refine brK_dec (fun _ => ?_) (fun _ => ?_)
      | refine brK_ndec (fun _ => ?_) (fun _ => ?_)
      | refine brK_not (fun _ => ?_) (fun _ => ?_)
      | refine brK_in (fun _ => ?_) (fun _ => ?_)
      | refine And.intro (by first | exact rfl | exact ⟨_, rfl, rfl⟩ | exact ⟨rfl, rfl, rfl⟩ | exact of_decide_eq_true rfl | exact trivial | assumption | omega | (show (_ ≤ _ ∧ _ ≤ _); omega) | (simp; omega) | exact ⟨by first | omega | (simp; omega), _, rfl, rfl⟩) ?_
      | refine Quo.l (And.intro (by first | exact rfl | assumption | omega | (simp; omega)) ?_)
      | refine Quo.r (And.intro (by omega) ?_)
      | refine Both.mk ?_ ?_
      | refine Exists.intro _ (And.intro rfl ?_)
      | refine fun _ => ?_))
    | exact rfl)
  refine loop_in (ι := Unit) (fun _ => mkS 34 [(0, .val (.slice none 0 0)), (1, I k), (4, I 0), (5, I 0)] [] Fs) (fun _ => True) (fun _ => 0) () [] trivial ?_ ?_
  · repeat' (first
      | ((conv => whnf); (first
        | refine brK_dec (fun _ => ?_) (fun _ => ?_)
        | refine brK_ndec (fun _ => ?_) (fun _ => ?_)
        | refine brK_not (fun _ => ?_) (fun _ => ?_)
        | refine brK_in (fun _ => ?_) (fun _ => ?_)
        | refine And.intro (by first | exact rfl | exact ⟨_, rfl, rfl⟩ | exact ⟨rfl, rfl, rfl⟩ | exact of_decide_eq_true rfl | exact trivial | assumption | omega | (show (_ ≤ _ ∧ _ ≤ _); omega) | (simp; omega) | exact ⟨by first | omega | (simp; omega), _, rfl, rfl⟩) ?_
        | refine Quo.l (And.intro (by first | exact rfl | assumption | omega | (simp; omega)) ?_)
        | refine Quo.r (And.intro (by omega) ?_)
        | refine Both.mk ?_ ?_
        | refine Exists.intro _ (And.intro rfl ?_)
        | refine fun _ => ?_))
      | exact rfl)
  intro _ _
  repeat' (first
    | ((conv => whnf); (first
      | refine brK_dec (fun _ => ?_) (fun _ => ?_)
      | refine brK_ndec (fun _ => ?_) (fun _ => ?_)
      | refine brK_not (fun _ => ?_) (fun _ => ?_)
      | refine brK_in (fun _ => ?_) (fun _ => ?_)
      | refine And.intro (by first | exact rfl | exact ⟨_, rfl, rfl⟩ | exact ⟨rfl, rfl, rfl⟩ | exact of_decide_eq_true rfl | exact trivial | assumption | omega | (show (_ ≤ _ ∧ _ ≤ _); omega) | (simp; omega) | exact ⟨by first | omega | (simp; omega), _, rfl, rfl⟩) ?_
      | refine Quo.l (And.intro (by first | exact rfl | assumption | omega | (simp; omega)) ?_)
      | refine Quo.r (And.intro (by omega) ?_)
      | refine Both.mk ?_ ?_
      | refine Exists.intro _ (And.intro rfl ?_)
      | refine fun _ => ?_))
    | exact rfl)
  all_goals first
    | exact h
    | (exfalso; omega)
    | trace_state
def c_laws_markVoter : Con := ⟨0, 3, false, fun xs hs _ K => match xs, hs with
  | [.agg [.val (.int .i64 _), .own 0], .val (.int .i64 k)], [.arr 3 rows] => ∃ S : List VtD, rows = S.map VtD.row ∧ 0 ≤ k ∧ k ≤ 100000000 ∧ S.length < 2000000 ∧ K (I (k + 3 * S.length)) [.arr 3 ((mkT k S.length).map VtD.row)] []
  | _, _ => False⟩
theorem k_laws_markVoter : Keeps' Try.prog 11 c_laws_markVoter := by
  refine keeps_of_vc mix TyT_ok (cok_stay (cok_cons k_laws_markVoteS Try.func33 rfl rfl cok_nil)) Try.func11 rfl rfl rfl ?_
  intro aargs hs Fs K h
  simp only [c_laws_markVoter] at h
  split at h
  case h_2 => exact h.elim
  rename_i f k rows
  obtain ⟨S, rfl, h0, h1, hl, h⟩ := h
  repeat' (first
    | ((conv => whnf); (first
      | refine brK_dec (fun _ => ?_) (fun _ => ?_)
      | refine brK_ndec (fun _ => ?_) (fun _ => ?_)
      | refine brK_not (fun _ => ?_) (fun _ => ?_)
      | refine brK_in (fun _ => ?_) (fun _ => ?_)
      | refine And.intro (by first | exact rfl | exact (by first | (rw [List.length_map, List.length_map, mkT_len]; done) | (simp [roFreeX, roFree, roFreeB, VtD.row, roFreeC]; done)) | exact ⟨_, rfl, rfl⟩ | exact ⟨rfl, rfl, rfl⟩ | exact of_decide_eq_true rfl | exact trivial | assumption | omega | (show (_ ≤ _ ∧ _ ≤ _); omega) | (simp; omega) | exact ⟨by first | omega | (simp; omega), _, rfl, rfl⟩) ?_
      | refine Quo.l (And.intro (by first | exact rfl | exact (by first | (rw [List.length_map, List.length_map, mkT_len]; done) | (simp [roFreeX, roFree, roFreeB, VtD.row, roFreeC]; done)) | assumption | omega | (simp; omega)) ?_)
      | refine Quo.r (And.intro (by omega) ?_)
      | refine Both.mk ?_ ?_
      | refine Exists.intro _ (And.intro rfl ?_)
      | refine fun _ => ?_))
    | exact rfl)
  all_goals first
    | exact h
    | exact ⟨⟨rfl, by simp [roFreeB, VtD.row, roFreeC], rfl⟩, h⟩
    | trace_state
def c_laws_markVoterN : Con := ⟨0, 3, false, fun xs hs _ K => match xs, hs with
  | [.agg [.val (.int .i64 _), .val (.slice none 0 0)], .val (.int .i64 k)], [] => K (I k) [] []
  | _, _ => False⟩
theorem k_laws_markVoter_n : Keeps' Try.prog 11 c_laws_markVoterN := by
  refine keeps_of_vc mix TyT_ok (cok_stay (cok_cons k_laws_markVoteS_n Try.func33 rfl rfl cok_nil)) Try.func11 rfl rfl rfl ?_
  intro aargs hs Fs K h
  simp only [c_laws_markVoterN] at h
  split at h
  case h_2 => exact h.elim
  repeat' (first
    | ((conv => whnf); (first
      | refine brK_dec (fun _ => ?_) (fun _ => ?_)
      | refine brK_ndec (fun _ => ?_) (fun _ => ?_)
      | refine brK_not (fun _ => ?_) (fun _ => ?_)
      | refine brK_in (fun _ => ?_) (fun _ => ?_)
      | refine And.intro (by first | exact rfl | exact ⟨_, rfl, rfl⟩ | exact ⟨rfl, rfl, rfl⟩ | exact of_decide_eq_true rfl | exact trivial | assumption | omega | (show (_ ≤ _ ∧ _ ≤ _); omega) | (simp; omega) | exact ⟨by first | omega | (simp; omega), _, rfl, rfl⟩) ?_
      | refine Quo.l (And.intro (by first | exact rfl | assumption | omega | (simp; omega)) ?_)
      | refine Quo.r (And.intro (by omega) ?_)
      | refine Both.mk ?_ ?_
      | refine Exists.intro _ (And.intro rfl ?_)
      | refine fun _ => ?_))
    | exact rfl)
  exact h
def c_laws_heldVoteS : Con := ⟨0, 0, false, fun xs hs _ K => match xs with
  | [.sl 3 rows, .val (.int .i64 k)] => hs = [] ∧ ∃ S : List VtD, rows = S.map VtD.row ∧ 0 ≤ k ∧ k ≤ 100000000 ∧ S.length < 2000000 ∧ S = mkT k S.length ∧ K (I (k + 3 * S.length)) [] []
  | _ => False⟩
theorem k_laws_heldVoteS : Keeps' Try.prog 34 c_laws_heldVoteS := by
  refine keeps_of_vc mix TyT_ok cok_nil Try.func34 rfl rfl rfl ?_
  intro aargs hs Fs K h
  simp only [c_laws_heldVoteS] at h
  split at h
  case h_2 => exact h.elim
  rename_i rows k
  obtain ⟨rfl, S, rfl, h0, h1, hl, hm, h⟩ := h
  have hlen : (S.map VtD.row).length = S.length := by simp
  repeat' (first
    | ((conv => whnf); (first
      | refine brK_dec (fun _ => ?_) (fun _ => ?_)
      | refine brK_ndec (fun _ => ?_) (fun _ => ?_)
      | refine brK_not (fun _ => ?_) (fun _ => ?_)
      | refine brK_in (fun _ => ?_) (fun _ => ?_)
      | refine And.intro (by first | exact rfl | exact ⟨_, rfl, rfl⟩ | exact ⟨rfl, rfl, rfl⟩ | exact of_decide_eq_true rfl | exact trivial | assumption | omega | (show (_ ≤ _ ∧ _ ≤ _); omega) | (simp; omega) | exact ⟨by first | omega | (simp; omega), _, rfl, rfl⟩) ?_
      | refine Quo.l (And.intro (by first | exact rfl | assumption | omega | (simp; omega)) ?_)
      | refine Quo.r (And.intro (by omega) ?_)
      | refine Both.mk ?_ ?_
      | refine Exists.intro _ (And.intro rfl ?_)
      | refine fun _ => ?_))
    | exact rfl)
  refine loop_in (ι := Nat) (fun i => mkS 40 [(0, .sl 3 (S.map VtD.row)), (1, I (k + 3 * i)), (4, I 0), (5, I i)] [] Fs) (fun i => i ≤ S.length) (fun i => S.length - i) 0 [] (Nat.zero_le _) ?_ ?_
  · repeat' (first
      | ((conv => whnf); (first
        | refine brK_dec (fun _ => ?_) (fun _ => ?_)
        | refine brK_ndec (fun _ => ?_) (fun _ => ?_)
        | refine brK_not (fun _ => ?_) (fun _ => ?_)
        | refine brK_in (fun _ => ?_) (fun _ => ?_)
        | refine And.intro (by first | exact rfl | exact ⟨_, rfl, rfl⟩ | exact ⟨rfl, rfl, rfl⟩ | exact of_decide_eq_true rfl | exact trivial | assumption | omega | (show (_ ≤ _ ∧ _ ≤ _); omega) | (simp; omega) | exact ⟨by first | omega | (simp; omega), _, rfl, rfl⟩) ?_
        | refine Quo.l (And.intro (by first | exact rfl | assumption | omega | (simp; omega)) ?_)
        | refine Quo.r (And.intro (by omega) ?_)
        | refine Both.mk ?_ ?_
        | refine Exists.intro _ (And.intro rfl ?_)
        | refine fun _ => ?_))
      | exact rfl)
  intro i hi
  rcases Nat.lt_or_ge i S.length with hil | hil
  · obtain ⟨x, hx⟩ : ∃ x, S[((i : Nat) : Int).toNat]? = some x := ⟨_, List.getElem?_eq_getElem hil⟩
    have hx2 : x = ⟨k + 3 * i, k + 3 * i + 1, k + 3 * i + 1 + 1⟩ := by
      have hx : S[i]? = some x := hx
      rw [hm] at hx
      exact mkT_get hx
    have q1 : x.r = k + 3 * i := by rw [hx2]
    have q2 : x.a = k + 3 * i + 1 := by rw [hx2]
    have q3 : x.d = k + 3 * i + 1 + 1 := by rw [hx2]
    repeat' (first
      | ((conv => whnf); (first
        | refine brK_dec (fun _ => ?_) (fun _ => ?_)
        | refine brK_ndec (fun _ => ?_) (fun _ => ?_)
        | refine brK_not (fun _ => ?_) (fun _ => ?_)
        | refine brK_in (fun _ => ?_) (fun _ => ?_)
        | refine And.intro (by first | exact rfl | exact ⟨_, rfl, rfl⟩ | exact ⟨rfl, rfl, rfl⟩ | exact of_decide_eq_true rfl | exact trivial | assumption | omega | (show (_ ≤ _ ∧ _ ≤ _); omega) | (simp; omega) | exact ⟨by first | omega | (simp; omega), _, rfl, rfl⟩) ?_
        | refine Quo.l (And.intro (by first | exact rfl | assumption | omega | (simp; omega)) ?_)
        | refine Quo.r (And.intro (by omega) ?_)
        | refine Both.mk ?_ ?_
        | refine Exists.intro _ (And.intro rfl ?_)
        | refine trow_use (by assumption) ?_
        | refine fun _ => ?_))
      | exact rfl)
    all_goals first
      | (rename_i q; exact absurd q1 q)
      | (rename_i q; exact absurd q2 q)
      | (rename_i q; exact absurd q3 q)
      | omega
      | (refine ⟨i + 1, [], by omega, by omega, ?_⟩
         repeat' (first
           | ((conv => whnf); (first
             | refine brK_dec (fun _ => ?_) (fun _ => ?_)
             | refine brK_ndec (fun _ => ?_) (fun _ => ?_)
             | refine brK_not (fun _ => ?_) (fun _ => ?_)
             | refine brK_in (fun _ => ?_) (fun _ => ?_)
             | refine And.intro (by first | exact rfl | exact ⟨_, rfl, rfl⟩ | exact ⟨rfl, rfl, rfl⟩ | exact of_decide_eq_true rfl | exact trivial | assumption | omega | (show (_ ≤ _ ∧ _ ≤ _); omega) | (simp; omega) | exact ⟨by first | omega | (simp; omega), _, rfl, rfl⟩) ?_
             | refine Quo.l (And.intro (by first | exact rfl | assumption | omega | (simp; omega)) ?_)
             | refine Quo.r (And.intro (by omega) ?_)
             | refine Both.mk ?_ ?_
             | refine Exists.intro _ (And.intro rfl ?_)
             | refine trow_use (by assumption) ?_
             | refine fun _ => ?_))
           | exact rfl)
         done)
      | trace_state
  · repeat' (first
      | ((conv => whnf); (first
        | refine brK_dec (fun _ => ?_) (fun _ => ?_)
        | refine brK_ndec (fun _ => ?_) (fun _ => ?_)
        | refine brK_not (fun _ => ?_) (fun _ => ?_)
        | refine brK_in (fun _ => ?_) (fun _ => ?_)
        | refine And.intro (by first | exact rfl | exact ⟨_, rfl, rfl⟩ | exact ⟨rfl, rfl, rfl⟩ | exact of_decide_eq_true rfl | exact trivial | assumption | omega | (show (_ ≤ _ ∧ _ ≤ _); omega) | (simp; omega) | exact ⟨by first | omega | (simp; omega), _, rfl, rfl⟩) ?_
        | refine Quo.l (And.intro (by first | exact rfl | assumption | omega | (simp; omega)) ?_)
        | refine Quo.r (And.intro (by omega) ?_)
        | refine Both.mk ?_ ?_
        | refine Exists.intro _ (And.intro rfl ?_)
        | refine fun _ => ?_))
      | exact rfl)
    · omega
    obtain rfl : i = S.length := by omega
    exact h
def c_laws_heldVoter : Con := ⟨0, 0, false, fun xs hs _ K => match xs with
  | [.agg [.val (.int .i64 _), .sl 3 rows], .val (.int .i64 k)] => hs = [] ∧ ∃ S : List VtD, rows = S.map VtD.row ∧ 0 ≤ k ∧ k ≤ 100000000 ∧ S.length < 2000000 ∧ S = mkT k S.length ∧ K (I (k + 3 * S.length)) [] []
  | _ => False⟩
theorem k_laws_heldVoter : Keeps' Try.prog 12 c_laws_heldVoter := by
  refine keeps_of_vc mix TyT_ok (cok_cons k_laws_heldVoteS Try.func34 rfl rfl cok_nil) Try.func12 rfl rfl rfl ?_
  intro aargs hs Fs K h
  simp only [c_laws_heldVoter] at h
  split at h
  case h_2 => exact h.elim
  rename_i f rows k
  obtain ⟨rfl, S, rfl, h0, h1, hl, hm, h⟩ := h
  repeat' (first
    | ((conv => whnf); (first
      | refine brK_dec (fun _ => ?_) (fun _ => ?_)
      | refine brK_ndec (fun _ => ?_) (fun _ => ?_)
      | refine brK_not (fun _ => ?_) (fun _ => ?_)
      | refine brK_in (fun _ => ?_) (fun _ => ?_)
      | refine And.intro (by first | exact rfl | exact ⟨_, rfl, rfl⟩ | exact ⟨rfl, rfl, rfl⟩ | exact of_decide_eq_true rfl | exact trivial | assumption | omega | (show (_ ≤ _ ∧ _ ≤ _); omega) | (simp; omega) | exact ⟨by first | omega | (simp; omega), _, rfl, rfl⟩) ?_
      | refine Quo.l (And.intro (by first | exact rfl | assumption | omega | (simp; omega)) ?_)
      | refine Quo.r (And.intro (by omega) ?_)
      | refine Both.mk ?_ ?_
      | refine Exists.intro _ (And.intro rfl ?_)
      | refine fun _ => ?_))
    | exact rfl)
  all_goals first
    | exact h
    | (exfalso; omega)
end Go.Proofs.Ytalbgcpfekmfoaa
