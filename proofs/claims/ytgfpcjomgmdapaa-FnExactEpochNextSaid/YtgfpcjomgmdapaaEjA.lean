/-
The laws' own functions on joining members: sizes, copies, comparisons, marks.
No conditions.
-/
import Derived.Test.YtgfpcjomgmdapaaMkB
import Derived.Test.YtgfpcjomgmdapaaNxD
import Derived.Test.YtgfpcjomgmdapaaNjA
namespace Go.Proofs.Ytgfpcjomgmdapaa
open Go Go.Vc
set_option maxHeartbeats 2000000
set_option maxRecDepth 10000
def szJ (l : Nat) (n : Int) : Int := if n - l < 0 then -1 else n - l
theorem szJ_le {l : Nat} {n : Int} (h : ¬ szJ l n < 0) : (l : Int) ≤ n := by
  unfold szJ at h
  split at h <;> omega
def c_laws_szJoinS : Con := ⟨0, 0, false, fun xs hs _ K => match xs with
  | [.sl 2 l, .val (.int .i64 n)] => hs = [] ∧ l.length ≤ 9223372036854775807 ∧ 0 ≤ n ∧ n ≤ 1048576 ∧ K (I (szJ l.length n)) [] []
  | _ => False⟩
theorem k_laws_szJoinS : Keeps' Try.prog 8 c_laws_szJoinS := by
  refine keeps_of_vc mix TyT_ok cok_nil Try.func8 rfl rfl rfl ?_
  intro aargs hs Fs K h
  simp only [c_laws_szJoinS] at h
  split at h
  case h_2 => exact h.elim
  rename_i l n
  obtain ⟨rfl, hl, h0, h1, h⟩ := h
  have no : ∀ {b : Int}, szJ l.length n = b → K (I b) [] [] := fun e => by rw [← e]; exact h
  repeat' (first
    | ((conv => whnf); (first
      | refine brK_dec (fun _ => ?_) (fun _ => ?_)
      | refine brK_ndec (fun _ => ?_) (fun _ => ?_)
      | refine brK_not (fun _ => ?_) (fun _ => ?_)
      | refine brK_in (fun _ => ?_) (fun _ => ?_)
      | refine And.intro (by first | exact rfl | exact ⟨_, rfl, rfl⟩ | exact ⟨rfl, rfl, rfl⟩ | exact of_decide_eq_true rfl | exact trivial | assumption | omega | (show (_ ≤ _ ∧ _ ≤ _); omega) | (simp; omega) | exact ⟨by first | omega | (simp; omega), _, rfl, rfl⟩) ?_
      | refine Both.mk ?_ ?_
      | refine Exists.intro _ (And.intro rfl ?_)
      | refine fun _ => ?_))
    | exact rfl)
  · rename_i h1; exact no (by simp [szJ]; omega)
  · rename_i h1; exact no (by simp [szJ]; omega)
def c_laws_toJoin : Con := ⟨0, 0, false, fun xs hs _ K => match xs with
  | [.agg [.val (.int .i64 a), .val (.int .i64 b)]] => hs = [] ∧ K (.agg [I a, I b]) [] []
  | _ => False⟩
theorem k_laws_toJoin : Keeps' Try.prog 32 c_laws_toJoin := by
  refine keeps_of_vc mix TyT_ok cok_nil Try.func32 rfl rfl rfl ?_
  intro aargs hs Fs K h
  simp only [c_laws_toJoin] at h
  split at h
  case h_2 => exact h.elim
  rename_i a b
  obtain ⟨rfl, h⟩ := h
  repeat' (first
    | ((conv => whnf); (first
      | refine brK_dec (fun _ => ?_) (fun _ => ?_)
      | refine brK_ndec (fun _ => ?_) (fun _ => ?_)
      | refine brK_not (fun _ => ?_) (fun _ => ?_)
      | refine brK_in (fun _ => ?_) (fun _ => ?_)
      | refine And.intro (by first | exact rfl | exact ⟨_, rfl, rfl⟩ | exact ⟨rfl, rfl, rfl⟩ | exact of_decide_eq_true rfl | exact trivial | assumption | omega | (show (_ ≤ _ ∧ _ ≤ _); omega) | (simp; omega) | exact ⟨by first | omega | (simp; omega), _, rfl, rfl⟩) ?_
      | refine Both.mk ?_ ?_
      | refine Exists.intro _ (And.intro rfl ?_)
      | refine fun _ => ?_))
    | exact rfl)
  exact h
def c_laws_eqJoin : Con := ⟨0, 0, false, fun xs hs _ K => match xs with
  | [.agg [.val (.int .i64 a), .val (.int .i64 b)], .agg [.val (.int .i64 c), .val (.int .i64 d)]] => hs = [] ∧ K (B (decide (a = c ∧ b = d))) [] []
  | _ => False⟩
theorem k_laws_eqJoin : Keeps' Try.prog 37 c_laws_eqJoin := by
  refine keeps_of_vc mix TyT_ok cok_nil Try.func37 rfl rfl rfl ?_
  intro aargs hs Fs K h
  simp only [c_laws_eqJoin] at h
  split at h
  case h_2 => exact h.elim
  rename_i a b c d
  obtain ⟨rfl, h⟩ := h
  have no : ∀ {x : Bool}, decide (a = c ∧ b = d) = x → K (B x) [] [] := fun e => by rw [← e]; exact h
  repeat' (first
    | ((conv => whnf); (first
      | refine brK_dec (fun _ => ?_) (fun _ => ?_)
      | refine brK_ndec (fun _ => ?_) (fun _ => ?_)
      | refine brK_not (fun _ => ?_) (fun _ => ?_)
      | refine brK_in (fun _ => ?_) (fun _ => ?_)
      | refine And.intro (by first | exact rfl | exact ⟨_, rfl, rfl⟩ | exact ⟨rfl, rfl, rfl⟩ | exact of_decide_eq_true rfl | exact trivial | assumption | omega | (show (_ ≤ _ ∧ _ ≤ _); omega) | (simp; omega) | exact ⟨by first | omega | (simp; omega), _, rfl, rfl⟩) ?_
      | refine Both.mk ?_ ?_
      | refine Exists.intro _ (And.intro rfl ?_)
      | refine fun _ => ?_))
    | exact rfl)
  all_goals exact no (by simp_all)
theorem set_fillJ {l : List (Int × Int)} {i : Nat} {x : Int × Int} (hx : l[i]? = some x) : (rows2 (l.take i ++ List.replicate (l.length - i) (0, 0))).set i [I x.1, I x.2] = rows2 (l.take (i + 1) ++ List.replicate (l.length - (i + 1)) (0, 0)) := by
  obtain ⟨hi, _⟩ := List.getElem?_eq_some_iff.1 hx
  have e : l.length - i = (l.length - (i + 1)) + 1 := by omega
  have e1 : (l.take i).length = i := by simp; omega
  have hi' := hi
  rw [List.take_add_one, hx, e, List.replicate_succ]
  simp only [rows2, List.map_append, List.map_cons]
  rw [List.set_append, if_neg (by rw [List.length_map]; omega), List.length_map, e1, Nat.sub_self]
  simp
theorem rows2_set (l : List (Int × Int)) (i : Nat) (p : Int × Int) : rows2 (l.set i p) = (rows2 l).set i [I p.1, I p.2] := by simp [rows2, List.map_set]
theorem rows2_rep (n : Nat) : List.replicate n [I 0, I 0] = rows2 (List.replicate n (0, 0)) := by simp [rows2]
def c_laws_toJoinS : Con := ⟨1, 0, false, fun xs hs _ K => match xs with
  | [.sl 2 l] => ∃ js, l = rows2 js ∧ hs = [] ∧ js.length ≤ 1048576 ∧ K (.own 0) [.arr 2 (rows2 js)] []
  | _ => False⟩
theorem k_laws_toJoinS : Keeps' Try.prog 12 c_laws_toJoinS := by
  refine keeps_of_vc mix TyT_ok (cok_cons k_laws_toJoin Try.func32 rfl rfl cok_nil) Try.func12 rfl rfl rfl ?_
  intro aargs hs Fs K h
  simp only [c_laws_toJoinS] at h
  split at h
  case h_2 => exact h.elim
  rename_i l
  obtain ⟨js, rfl, rfl, hl, h⟩ := h
  have hl2 := rows2_len js
  repeat' (first
    | ((conv => whnf); (first
      | refine brK_dec (fun _ => ?_) (fun _ => ?_)
      | refine brK_ndec (fun _ => ?_) (fun _ => ?_)
      | refine brK_not (fun _ => ?_) (fun _ => ?_)
      | refine brK_in (fun _ => ?_) (fun _ => ?_)
      | refine And.intro (by first | exact rfl | exact ⟨_, rfl, rfl⟩ | exact ⟨rfl, rfl, rfl⟩ | exact of_decide_eq_true rfl | exact trivial | assumption | omega | (show (_ ≤ _ ∧ _ ≤ _); omega) | (simp; omega) | exact ⟨by first | omega | (simp; omega), _, rfl, rfl⟩) ?_
      | refine Both.mk ?_ ?_
      | refine Exists.intro _ (And.intro rfl ?_)
      | refine fun _ => ?_))
    | exact rfl)
  refine loop_in (ι := Nat) (fun i => mkS 23 [(0, .sl 2 (rows2 js)), (3, .own 0), (4, I i)] [.arr 2 (rows2 (js.take i ++ List.replicate (js.length - i) (0, 0)))] Fs) (fun i => i ≤ js.length) (fun i => js.length - i) 0 [0] (Nat.zero_le _) ?_ ?_
  · repeat' (first
      | ((conv => whnf); (first
        | refine brK_dec (fun _ => ?_) (fun _ => ?_)
        | refine brK_ndec (fun _ => ?_) (fun _ => ?_)
        | refine brK_not (fun _ => ?_) (fun _ => ?_)
        | refine brK_in (fun _ => ?_) (fun _ => ?_)
        | refine And.intro (by first | exact rfl | exact (by first | exact (rows2_rep _).symm | (rw [hl2]; exact (rows2_rep _).symm) | (rw [hl2]; exact rows2_rep _)) | exact ⟨_, rfl, rfl⟩ | exact ⟨rfl, rfl, rfl⟩ | exact of_decide_eq_true rfl | exact trivial | assumption | omega | (show (_ ≤ _ ∧ _ ≤ _); omega) | (simp; omega) | exact ⟨by first | omega | (simp; omega), _, rfl, rfl⟩) ?_
        | refine Both.mk ?_ ?_
        | refine Exists.intro _ (And.intro rfl ?_)
        | refine fun _ => ?_))
      | exact rfl)
  intro i hi
  have hl3 : (rows2 (js.take i ++ List.replicate (js.length - i) (0, 0))).length = js.length := by rw [rows2_len]; simp; omega
  repeat' (first
    | ((conv => whnf); (first
      | refine brK_dec (fun _ => ?_) (fun _ => ?_)
      | refine brK_ndec (fun _ => ?_) (fun _ => ?_)
      | refine brK_not (fun _ => ?_) (fun _ => ?_)
      | refine brK_in (fun _ => ?_) (fun _ => ?_)
      | refine And.intro (by first | exact rfl | exact (⟨by omega, _, rfl, rfl⟩) | exact ⟨_, rfl, rfl⟩ | exact ⟨rfl, rfl, rfl⟩ | exact of_decide_eq_true rfl | exact trivial | assumption | omega | (show (_ ≤ _ ∧ _ ≤ _); omega) | (simp; omega) | exact ⟨by first | omega | (simp; omega), _, rfl, rfl⟩) ?_
      | refine Both.mk ?_ ?_
      | refine Exists.intro _ (And.intro rfl ?_)
      | refine fun _ => ?_))
    | exact rfl)
  · rename_i hil e he
    obtain ⟨p, hp, rfl⟩ := rows2_get he
    have hp : js[i]? = some p := by simpa using hp
    repeat' (first
      | ((conv => whnf); (first
        | refine brK_dec (fun _ => ?_) (fun _ => ?_)
        | refine brK_ndec (fun _ => ?_) (fun _ => ?_)
        | refine brK_not (fun _ => ?_) (fun _ => ?_)
        | refine brK_in (fun _ => ?_) (fun _ => ?_)
        | refine And.intro (by first | exact rfl | exact (⟨by omega, _, rfl, rfl⟩) | exact ⟨_, rfl, rfl⟩ | exact ⟨rfl, rfl, rfl⟩ | exact of_decide_eq_true rfl | exact trivial | assumption | omega | (show (_ ≤ _ ∧ _ ≤ _); omega) | (simp; omega) | exact ⟨by first | omega | (simp; omega), _, rfl, rfl⟩) ?_
        | refine Both.mk ?_ ?_
        | refine Exists.intro _ (And.intro rfl ?_)
        | refine fun _ => ?_))
      | exact rfl)
    have ef := set_fillJ hp
    rename_i e' he'
    obtain ⟨p', hp', rfl⟩ := rows2_get he'
    refine ⟨i + 1, [0], by omega, by omega, ?_⟩
    repeat' (first
      | ((conv => whnf); (first
        | refine brK_dec (fun _ => ?_) (fun _ => ?_)
        | refine brK_ndec (fun _ => ?_) (fun _ => ?_)
        | refine brK_not (fun _ => ?_) (fun _ => ?_)
        | refine brK_in (fun _ => ?_) (fun _ => ?_)
        | refine And.intro (by first | exact rfl | exact (by first | exact ef.symm | exact ef) | exact ⟨_, rfl, rfl⟩ | exact ⟨rfl, rfl, rfl⟩ | exact of_decide_eq_true rfl | exact trivial | assumption | omega | (show (_ ≤ _ ∧ _ ≤ _); omega) | (simp; omega) | exact ⟨by first | omega | (simp; omega), _, rfl, rfl⟩) ?_
        | refine Both.mk ?_ ?_
        | refine Exists.intro _ (And.intro rfl ?_)
        | refine fun _ => ?_))
      | exact rfl)
  · rename_i hil
    have ei : i = js.length := by omega
    subst ei
    rw [List.take_length, Nat.sub_self, List.replicate_zero, List.append_nil]
    exact ⟨⟨rfl, by simp only [List.all_cons, List.all_nil, roFreeB, rows2_ro, roFreeC, Bool.and_true], rfl⟩, h⟩
def c_laws_eqJoinS : Con := ⟨0, 0, false, fun xs hs _ K => match xs with
  | [.sl 2 a, .sl 2 b] => ∃ js ms, a = rows2 js ∧ b = rows2 ms ∧ hs = [] ∧ js.length < 2000000 ∧ ms.length < 2000000 ∧ K (B (decide (js = ms))) [] []
  | _ => False⟩
theorem eq_takeJ {a b : List (Int × Int)} {i : Nat} {x y : Int × Int} (h : a.take i = b.take i) (hx : a[i]? = some x) (hy : b[i]? = some y) (e : x = y) : a.take (i + 1) = b.take (i + 1) := by
  rw [List.take_add_one, List.take_add_one, h, hx, hy, e]
theorem k_laws_eqJoinS : Keeps' Try.prog 16 c_laws_eqJoinS := by
  refine keeps_of_vc mix TyT_ok (cok_cons k_laws_eqJoin Try.func37 rfl rfl cok_nil) Try.func16 rfl rfl rfl ?_
  intro aargs hs Fs K h
  simp only [c_laws_eqJoinS] at h
  split at h
  case h_2 => exact h.elim
  rename_i a b
  obtain ⟨js, ms, rfl, rfl, rfl, ha, hb, h⟩ := h
  have no : ∀ {c : Bool}, decide (js = ms) = c → K (B c) [] [] := fun e => by rw [← e]; exact h
  have hl1 := rows2_len js
  have hl2 := rows2_len ms
  repeat' (first
    | ((conv => whnf); (first
      | refine brK_dec (fun _ => ?_) (fun _ => ?_)
      | refine brK_ndec (fun _ => ?_) (fun _ => ?_)
      | refine brK_not (fun _ => ?_) (fun _ => ?_)
      | refine brK_in (fun _ => ?_) (fun _ => ?_)
      | refine And.intro (by first | exact rfl | exact ⟨_, rfl, rfl⟩ | exact ⟨rfl, rfl, rfl⟩ | exact of_decide_eq_true rfl | exact trivial | assumption | omega | (show (_ ≤ _ ∧ _ ≤ _); omega) | (simp; omega) | exact ⟨by first | omega | (simp; omega), _, rfl, rfl⟩) ?_
      | refine Both.mk ?_ ?_
      | refine Exists.intro _ (And.intro rfl ?_)
      | refine fun _ => ?_))
    | exact rfl)
  · rename_i h1
    exact no (by
      have : js ≠ ms := by rintro rfl; exact h1 rfl
      simp [this])
  rename_i h1
  have hlen : js.length = ms.length := by omega
  refine loop_in (ι := Nat) (fun i => mkS 27 [(0, .sl 2 (rows2 js)), (1, .sl 2 (rows2 ms)), (4, B false), (5, I i)] [] Fs) (fun i => i ≤ js.length ∧ js.take i = ms.take i) (fun i => js.length - i) 0 [] ⟨Nat.zero_le _, by simp⟩ ?_ ?_
  · repeat' (first
      | ((conv => whnf); (first
        | refine brK_dec (fun _ => ?_) (fun _ => ?_)
        | refine brK_ndec (fun _ => ?_) (fun _ => ?_)
        | refine brK_not (fun _ => ?_) (fun _ => ?_)
        | refine brK_in (fun _ => ?_) (fun _ => ?_)
        | refine And.intro (by first | exact rfl | exact ⟨_, rfl, rfl⟩ | exact ⟨rfl, rfl, rfl⟩ | exact of_decide_eq_true rfl | exact trivial | assumption | omega | (show (_ ≤ _ ∧ _ ≤ _); omega) | (simp; omega) | exact ⟨by first | omega | (simp; omega), _, rfl, rfl⟩) ?_
        | refine Both.mk ?_ ?_
        | refine Exists.intro _ (And.intro rfl ?_)
        | refine fun _ => ?_))
      | exact rfl)
  intro i ⟨hi, hall⟩
  repeat' (first
    | ((conv => whnf); (first
      | refine draw_plan (id := 6) [] [] (.take 0 (.take 1 (.take 2 (.take 3 (.take 4 (.take 5 (.take 6 (.take 7 (.run 8 (.take 9 .done)))))))))) (by kernel_rfl) (by kernel_rfl) ?_
      | refine brK_dec (fun _ => ?_) (fun _ => ?_)
      | refine brK_ndec (fun _ => ?_) (fun _ => ?_)
      | refine brK_not (fun _ => ?_) (fun _ => ?_)
      | refine brK_in (fun _ => ?_) (fun _ => ?_)
      | refine And.intro (by first | exact rfl | exact ⟨_, rfl, rfl⟩ | exact ⟨rfl, rfl, rfl⟩ | exact of_decide_eq_true rfl | exact trivial | assumption | omega | (show (_ ≤ _ ∧ _ ≤ _); omega) | (simp; omega) | exact ⟨by first | omega | (simp; omega), _, rfl, rfl⟩) ?_
      | refine Both.mk ?_ ?_
      | refine Exists.intro _ (And.intro rfl ?_)
      | refine fun _ => ?_))
    | exact rfl)
  · rename_i hil e he
    obtain ⟨p, hp, rfl⟩ := rows2_get he
    repeat' (first
      | ((conv => whnf); (first
        | refine draw_plan (id := 6) [] [] (.take 0 (.take 1 (.take 2 (.take 3 (.take 4 (.take 5 (.take 6 (.take 7 (.run 8 (.take 9 .done)))))))))) (by kernel_rfl) (by kernel_rfl) ?_
        | refine brK_dec (fun _ => ?_) (fun _ => ?_)
        | refine brK_ndec (fun _ => ?_) (fun _ => ?_)
        | refine brK_not (fun _ => ?_) (fun _ => ?_)
        | refine brK_in (fun _ => ?_) (fun _ => ?_)
        | refine And.intro (by first | exact rfl | exact ⟨_, rfl, rfl⟩ | exact ⟨rfl, rfl, rfl⟩ | exact of_decide_eq_true rfl | exact trivial | assumption | omega | (show (_ ≤ _ ∧ _ ≤ _); omega) | (simp; omega) | exact ⟨by first | omega | (simp; omega), _, rfl, rfl⟩) ?_
        | refine Both.mk ?_ ?_
        | refine Exists.intro _ (And.intro rfl ?_)
        | refine fun _ => ?_))
      | exact rfl)
    rename_i e' he'
    obtain ⟨p', hp', rfl⟩ := rows2_get he'
    repeat' (first
      | ((conv => whnf); (first
        | refine draw_plan (id := 6) [] [] (.take 0 (.take 1 (.take 2 (.take 3 (.take 4 (.take 5 (.take 6 (.take 7 (.run 8 (.take 9 .done)))))))))) (by kernel_rfl) (by kernel_rfl) ?_
        | refine brK_dec (fun _ => ?_) (fun _ => ?_)
        | refine brK_ndec (fun _ => ?_) (fun _ => ?_)
        | refine brK_not (fun _ => ?_) (fun _ => ?_)
        | refine brK_in (fun _ => ?_) (fun _ => ?_)
        | refine And.intro (by first | exact rfl | exact ⟨_, rfl, rfl⟩ | exact ⟨rfl, rfl, rfl⟩ | exact of_decide_eq_true rfl | exact trivial | assumption | omega | (show (_ ≤ _ ∧ _ ≤ _); omega) | (simp; omega) | exact ⟨by first | omega | (simp; omega), _, rfl, rfl⟩) ?_
        | refine Both.mk ?_ ?_
        | refine Exists.intro _ (And.intro rfl ?_)
        | refine fun _ => ?_))
      | exact rfl)
    · rename_i hne
      refine no (decide_eq_false fun e => hne ?_)
      subst e
      rw [hp] at hp'
      cases hp'
      exact ⟨rfl, rfl⟩
    · rename_i heq
      refine ⟨i + 1, [], ⟨by omega, eq_takeJ hall (by simpa using hp) (by simpa using hp') (Prod.ext heq.1 heq.2)⟩, by omega, ?_⟩
      repeat' (first
        | ((conv => whnf); (first
          | refine brK_dec (fun _ => ?_) (fun _ => ?_)
          | refine brK_ndec (fun _ => ?_) (fun _ => ?_)
          | refine brK_not (fun _ => ?_) (fun _ => ?_)
          | refine brK_in (fun _ => ?_) (fun _ => ?_)
          | refine And.intro (by first | exact rfl | exact ⟨_, rfl, rfl⟩ | exact ⟨rfl, rfl, rfl⟩ | exact of_decide_eq_true rfl | exact trivial | assumption | omega | (show (_ ≤ _ ∧ _ ≤ _); omega) | (simp; omega) | exact ⟨by first | omega | (simp; omega), _, rfl, rfl⟩) ?_
          | refine Both.mk ?_ ?_
          | refine Exists.intro _ (And.intro rfl ?_)
          | refine fun _ => ?_))
        | exact rfl)
  · rename_i hil
    rw [List.take_of_length_le (by omega), List.take_of_length_le (by omega)] at hall
    exact no (by simp [hall])
def c_laws_markJoinS : Con := ⟨0, 2, false, fun xs hs _ K => match xs, hs with
  | [.own 0, .val (.int .i64 k)], [.arr 2 l] => ∃ js, l = rows2 js ∧ 0 ≤ k ∧ k ≤ 100000000 ∧ js.length < 2000000 ∧ ∀ js', js'.length = js.length → K (I (k + 2 * js.length)) [.arr 2 (rows2 js')] []
  | _, _ => False⟩
theorem k_laws_markJoinS : Keeps' Try.prog 19 c_laws_markJoinS := by
  refine keeps_of_vc mix TyT_ok cok_nil Try.func19 rfl rfl rfl ?_
  intro aargs hs Fs K h
  simp only [c_laws_markJoinS] at h
  split at h
  case h_2 => exact h.elim
  rename_i k l
  obtain ⟨js, rfl, h0, h1, hl, h⟩ := h
  repeat' (first
    | ((conv => whnf); (first
      | refine brK_dec (fun _ => ?_) (fun _ => ?_)
      | refine brK_ndec (fun _ => ?_) (fun _ => ?_)
      | refine brK_not (fun _ => ?_) (fun _ => ?_)
      | refine brK_in (fun _ => ?_) (fun _ => ?_)
      | refine And.intro (by first | exact rfl | exact ⟨_, rfl, rfl⟩ | exact ⟨rfl, rfl, rfl⟩ | exact of_decide_eq_true rfl | exact trivial | assumption | omega | (show (_ ≤ _ ∧ _ ≤ _); omega) | (simp; omega) | exact ⟨by first | omega | (simp; omega), _, rfl, rfl⟩) ?_
      | refine Both.mk ?_ ?_
      | refine Exists.intro _ (And.intro rfl ?_)
      | refine fun _ => ?_))
    | exact rfl)
  refine loop_in (ι := Nat × List (Int × Int)) (fun g => mkS 27 [(0, .own 0), (1, I (k + 2 * g.1)), (4, I 0), (5, I g.1)] [.arr 2 (rows2 g.2)] Fs) (fun g => g.1 ≤ js.length ∧ g.2.length = js.length) (fun g => js.length - g.1) (0, js) [0] ⟨Nat.zero_le _, rfl⟩ ?_ ?_
  · repeat' (first
      | ((conv => whnf); (first
        | refine brK_dec (fun _ => ?_) (fun _ => ?_)
        | refine brK_ndec (fun _ => ?_) (fun _ => ?_)
        | refine brK_not (fun _ => ?_) (fun _ => ?_)
        | refine brK_in (fun _ => ?_) (fun _ => ?_)
        | refine And.intro (by first | exact rfl | exact ⟨_, rfl, rfl⟩ | exact ⟨rfl, rfl, rfl⟩ | exact of_decide_eq_true rfl | exact trivial | assumption | omega | (show (_ ≤ _ ∧ _ ≤ _); omega) | (simp; omega) | exact ⟨by first | omega | (simp; omega), _, rfl, rfl⟩) ?_
        | refine Both.mk ?_ ?_
        | refine Exists.intro _ (And.intro rfl ?_)
        | refine fun _ => ?_))
      | exact rfl)
  rintro ⟨i, l⟩ ⟨hi, hll⟩
  dsimp only at hi hll ⊢
  have hl2 := rows2_len l
  repeat' (first
    | ((conv => whnf); (first
      | refine brK_dec (fun _ => ?_) (fun _ => ?_)
      | refine brK_ndec (fun _ => ?_) (fun _ => ?_)
      | refine brK_not (fun _ => ?_) (fun _ => ?_)
      | refine brK_in (fun _ => ?_) (fun _ => ?_)
      | refine And.intro (by first | exact rfl | exact (⟨by omega, _, rfl, rfl⟩) | exact ⟨_, rfl, rfl⟩ | exact ⟨rfl, rfl, rfl⟩ | exact of_decide_eq_true rfl | exact trivial | assumption | omega | (show (_ ≤ _ ∧ _ ≤ _); omega) | (simp; omega) | exact ⟨by first | omega | (simp; omega), _, rfl, rfl⟩) ?_
      | refine Both.mk ?_ ?_
      | refine Exists.intro _ (And.intro rfl ?_)
      | refine fun _ => ?_))
    | exact rfl)
  · rename_i hil e he e' he'
    obtain ⟨p, hp, rfl⟩ := rows2_get he
    have hi2 : i < l.length := by omega
    have hi3 : i < (rows2 l).length := by omega
    rw [Int.toNat_natCast, List.getElem?_set_self hi3] at he'
    cases he'
    refine ⟨(i + 1, l.set i (k + 2 * i, k + 2 * i + 1)), [0], ⟨by dsimp only; omega, by dsimp only; rw [List.length_set]; exact hll⟩, by dsimp only; omega, ?_⟩
    repeat' (first
      | ((conv => whnf); (first
        | refine brK_dec (fun _ => ?_) (fun _ => ?_)
        | refine brK_ndec (fun _ => ?_) (fun _ => ?_)
        | refine brK_not (fun _ => ?_) (fun _ => ?_)
        | refine brK_in (fun _ => ?_) (fun _ => ?_)
        | refine And.intro (by first | exact rfl | exact (by first | omega | (rw [Int.toNat_natCast, List.set_set]; exact (rows2_set _ _ _).symm) | (rw [Int.toNat_natCast, List.set_set]; exact (rows2_set _ _ _))) | exact ⟨_, rfl, rfl⟩ | exact ⟨rfl, rfl, rfl⟩ | exact of_decide_eq_true rfl | exact trivial | assumption | omega | (show (_ ≤ _ ∧ _ ≤ _); omega) | (simp; omega) | exact ⟨by first | omega | (simp; omega), _, rfl, rfl⟩) ?_
        | refine Both.mk ?_ ?_
        | refine Exists.intro _ (And.intro rfl ?_)
        | refine fun _ => ?_))
      | exact rfl)
  · rename_i hil
    obtain rfl : i = js.length := by omega
    exact ⟨⟨rfl, by simp only [List.all_cons, List.all_nil, roFreeB, rows2_ro, roFreeC, Bool.and_true], rfl⟩, h _ hll⟩
end Go.Proofs.Ytgfpcjomgmdapaa
