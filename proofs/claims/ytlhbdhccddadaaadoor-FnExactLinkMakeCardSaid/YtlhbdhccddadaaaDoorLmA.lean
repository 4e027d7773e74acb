/-
Links between epochs: how the program and the reference make them.
No conditions.
-/
import Derived.Test.YtlhbdhccddadaaaDoorLkA
import Derived.Test.YtlhbdhccddadaaaDoorSgA
import Derived.Test.YtlhbdhccddadaaaDoorCpA
namespace Go.Proofs.YtlhbdhccddadaaaDoor
open Go Go.Vc
set_option maxHeartbeats 2000000
set_option maxRecDepth 10000
def sgnS (d : Int) (s : List Int) : List Int := s.map fun x => signV x d
theorem sgnS_take {d : Int} {s : List Int} {i : Nat} {x : Int} (hx : s[i]? = some x) : sgnS d (s.take (i + 1)) = sgnS d (s.take i) ++ [signV x d] := by
  rw [List.take_add_one, hx]
  simp [sgnS]
theorem sgnS_len (d : Int) (s : List Int) : (sgnS d s).length = s.length := by simp [sgnS]
theorem sgnS_set {d : Int} {s : List Int} {i : Nat} {x : Int} (hx : s[i]? = some x) : (sgnS d (s.take i) ++ List.replicate (s.length - i) 0).set i (signV x d) = sgnS d (s.take (i + 1)) ++ List.replicate (s.length - (i + 1)) 0 := by
  obtain ⟨hi, _⟩ := List.getElem?_eq_some_iff.1 hx
  have e : s.length - i = (s.length - (i + 1)) + 1 := by omega
  have e1 : (sgnS d (s.take i)).length = i := by rw [sgnS_len]; simp; omega
  rw [List.set_append, if_neg (by omega), sgnS_take hx, e, List.replicate_succ, e1]
  simp
def lmkV (n : Int) (c k : List Int) (r n2 : Int) (c2 k2 : List Int) (r2 : Int) (s : List Int) : Bool :=
  EpV n c k r && (EpV n2 c2 k2 r2 && (decide (n2 = n + 1) && (decide (s.length = c.length) && cmkV c k (digE n2 c2 k2 r2) (sgnS (digE n2 c2 k2 r2) s))))
def c_spec_LinkMake : Con := ⟨3, 0, false, fun xs hs _ K => match xs with
  | [.agg [.val (.int .i64 n), .ints c, .ints k, .val (.int .i64 r)], .agg [.val (.int .i64 n2), .ints c2, .ints k2, .val (.int .i64 r2)], .ints s] => hs = [] ∧ c.length < 2000000 ∧ k.length < 2000000 ∧ c2.length < 2000000 ∧ k2.length < 2000000 ∧ s.length < 2000000 ∧
    Both (lmkV n c k r n2 c2 k2 r2 s = true → K (.tup [.agg [I n2, .own 0, .own 1, I r2, I (digE n2 c2 k2 r2), .own 2, I ((sgnS (digE n2 c2 k2 r2) s).sum % 997)], B true]) [.iarr c2, .iarr k2, .iarr (sgnL (sgnS (digE n2 c2 k2 r2) s) c.length)] [])
      (lmkV n c k r n2 c2 k2 r2 s = false → K (.tup [.agg [I 0, .val (.slice none 0 0), .val (.slice none 0 0), I 0, I 0, .val (.slice none 0 0), I 0], B false]) [] [])
  | _ => False⟩
theorem k_spec_LinkMake : Keeps' Tryd.prog 7 c_spec_LinkMake := by
  refine keeps_of_vc mix TyT_ok (cok_cons k_spec_EpochValid Tryd.func29 rfl rfl (cok_cons k_spec_SignMake Tryd.func30 rfl rfl (cok_cons k_spec_l41Digest Tryd.func31 rfl rfl (cok_cons k_spec_CertMake Tryd.func32 rfl rfl (cok_cons k_spec_l41Copy Tryd.func33 rfl rfl cok_nil))))) Tryd.func7 rfl rfl rfl ?_
  intro aargs hs Fs K h
  simp only [c_spec_LinkMake] at h
  split at h
  case h_2 => exact h.elim
  rename_i n c k r n2 c2 k2 r2 s
  obtain ⟨rfl, l1, l2, l3, l4, l5, h⟩ := h
  by_cases hall : EpV n c k r = true ∧ EpV n2 c2 k2 r2 = true ∧ n2 = n + 1 ∧ s.length = c.length
  · obtain ⟨a1, a2, a3, a4⟩ := hall
    obtain ⟨⟨n0, n1⟩, ⟨r0, r1⟩, b1, b2, b3, b4, b5⟩ := EpV_out a1
    repeat' (first
      | ((conv => whnf); (first
        | refine draw_plan (id := 7) [3] [] (.take 0 (.take 1 (.take 2 (.take 3 (.take 4 (.take 5 (.run 6 (.run 7 (.run 8 (.run 9 (.take 10 .done))))))))))) (by kernel_rfl) (by kernel_rfl) ?_
        | refine draw_plan (id := 8) [] [] (.take 0 (.take 1 (.take 2 (.take 3 (.take 4 (.take 6 (.two 5 (.two 7 (.take 8 (.take 9 (.take 10 (.run 11 (.run 12 (.take 13 .done)))))) 11 (.run 7 (.take 8 (.take 9 (.take 10 (.run 12 (.take 13 .done))))))) 11 (.run 5 (.run 7 (.take 8 (.take 9 (.take 10 (.run 12 (.take 13 .done)))))))))))))) (by kernel_rfl) (by kernel_rfl) ?_
        | refine draw_plan (id := 11) [2] [] (.take 0 (.take 2 (.run 1 (.take 3 (.run 4 (.take 5 .done)))))) (by kernel_rfl) (by kernel_rfl) ?_
        | refine brK_dec (fun _ => ?_) (fun _ => ?_)
        | refine brK_ndec (fun _ => ?_) (fun _ => ?_)
        | refine brK_not (fun _ => ?_) (fun _ => ?_)
        | refine brK_in (fun _ => ?_) (fun _ => ?_)
        | refine And.intro (by first | exact rfl | exact ⟨_, rfl, rfl⟩ | exact ⟨rfl, rfl, rfl⟩ | exact of_decide_eq_true rfl | exact trivial | assumption | omega | (show (_ ≤ _ ∧ _ ≤ _); omega) | (simp; omega) | exact ⟨by first | omega | (simp; omega), _, rfl, rfl⟩) ?_
        | refine Both.mk ?_ ?_
        | refine Exists.intro _ (And.intro rfl ?_)
        | refine fun _ => ?_))
      | exact rfl)
    all_goals first
      | (exfalso; simp_all; done)
      | (exfalso; simp_all; omega)
      | skip
    refine loop_in (ι := Nat) (fun i => mkS 72 [(2, .ints s), (3, .ptr 0 0), (4, .ptr 1 0), (6, .ptr 2 0), (7, B false), (8, .own 3), (9, I i)] [.cells [I n, .ints c, .ints k, I r], .cells [I n2, .ints c2, .ints k2, I r2], .cells [I 0, .val (.slice none 0 0), .val (.slice none 0 0), I 0, I 0, .val (.slice none 0 0), I 0], .iarr (sgnS (digE n2 c2 k2 r2) (s.take i))] Fs) (fun i => i ≤ s.length) (fun i => s.length - i) 0 [0, 1, 2, 3] (Nat.zero_le _) ?_ ?_
    · repeat' (first
        | ((conv => whnf); (first
          | refine brK_dec (fun _ => ?_) (fun _ => ?_)
          | refine brK_ndec (fun _ => ?_) (fun _ => ?_)
          | refine brK_not (fun _ => ?_) (fun _ => ?_)
          | refine brK_in (fun _ => ?_) (fun _ => ?_)
          | refine And.intro (by first | exact rfl | exact ⟨_, rfl, rfl⟩ | exact ⟨rfl, rfl, rfl⟩ | exact of_decide_eq_true rfl | exact trivial | assumption | omega | (show (_ ≤ _ ∧ _ ≤ _); omega) | (simp; omega) | exact ⟨by first | omega | (simp; omega), _, rfl, rfl⟩) ?_
          | refine Both.mk ?_ ?_
          | refine Exists.intro _ (And.intro rfl ?_)
          | refine fun _ => ?_))
        | exact rfl)
    intro i hi
    have hsl : (sgnS (digE n2 c2 k2 r2) (s.take i)).length = i := by rw [sgnS_len]; simp; omega
    repeat' (first
      | ((conv => whnf); (first
        | refine draw_plan (id := 7) [3] [] (.take 0 (.take 1 (.take 2 (.take 3 (.take 4 (.take 5 (.run 6 (.run 7 (.run 8 (.run 9 (.take 10 .done))))))))))) (by kernel_rfl) (by kernel_rfl) ?_
        | refine draw_plan (id := 8) [] [] (.take 0 (.take 1 (.take 2 (.take 3 (.take 4 (.take 6 (.two 5 (.two 7 (.take 8 (.take 9 (.take 10 (.run 11 (.run 12 (.take 13 .done)))))) 11 (.run 7 (.take 8 (.take 9 (.take 10 (.run 12 (.take 13 .done))))))) 11 (.run 5 (.run 7 (.take 8 (.take 9 (.take 10 (.run 12 (.take 13 .done)))))))))))))) (by kernel_rfl) (by kernel_rfl) ?_
        | refine draw_plan (id := 11) [2] [] (.take 0 (.take 2 (.run 1 (.take 3 (.run 4 (.take 5 .done)))))) (by kernel_rfl) (by kernel_rfl) ?_
        | refine brK_dec (fun _ => ?_) (fun _ => ?_)
        | refine brK_ndec (fun _ => ?_) (fun _ => ?_)
        | refine brK_not (fun _ => ?_) (fun _ => ?_)
        | refine brK_in (fun _ => ?_) (fun _ => ?_)
        | refine And.intro (by first | exact rfl | exact ⟨_, rfl, rfl⟩ | exact ⟨rfl, rfl, rfl⟩ | exact of_decide_eq_true rfl | exact trivial | assumption | omega | (show (_ ≤ _ ∧ _ ≤ _); omega) | (simp; omega) | exact ⟨by first | omega | (simp; omega), _, rfl, rfl⟩) ?_
        | refine Both.mk ?_ ?_
        | refine Exists.intro _ (And.intro rfl ?_)
        | refine fun _ => ?_))
      | exact rfl)
    · rename_i hil x hx
      have hx : s[i]? = some x := hx
      have e := sgnS_take (d := digE n2 c2 k2 r2) hx
      refine ⟨i + 1, [0, 1, 2, 3], by omega, by omega, ?_⟩
      rw [e]
      repeat' (first
        | ((conv => whnf); (first
          | refine brK_dec (fun _ => ?_) (fun _ => ?_)
          | refine brK_ndec (fun _ => ?_) (fun _ => ?_)
          | refine brK_not (fun _ => ?_) (fun _ => ?_)
          | refine brK_in (fun _ => ?_) (fun _ => ?_)
          | refine And.intro (by first | exact rfl | exact (by rw [List.take_length]) | exact ⟨_, rfl, rfl⟩ | exact ⟨rfl, rfl, rfl⟩ | exact of_decide_eq_true rfl | exact trivial | assumption | omega | (show (_ ≤ _ ∧ _ ≤ _); omega) | (simp; omega) | exact ⟨by first | omega | (simp; omega), _, rfl, rfl⟩) ?_
          | refine Both.mk ?_ ?_
          | refine Exists.intro _ (And.intro rfl ?_)
          | refine fun _ => ?_))
        | exact rfl)
    all_goals try rename_i hil hq
    all_goals have e : s.take i = s := List.take_of_length_le (by omega)
    all_goals rw [e] at hq
    all_goals first
      | exact h.r (by rw [lmkV, a1, a2, decide_eq_true a3, decide_eq_true a4, hq]; rfl)
      | (rw [e]; exact h.l (by rw [lmkV, a1, a2, decide_eq_true a3, decide_eq_true a4, hq]; rfl))
  · have e1 : lmkV n c k r n2 c2 k2 r2 s = false := by
      rw [lmkV]
      cases a1 : EpV n c k r
      · rfl
      cases a2 : EpV n2 c2 k2 r2
      · rfl
      by_cases a3 : n2 = n + 1
      · rw [decide_eq_true a3, decide_eq_false fun e => hall ⟨a1, a2, a3, e⟩]; rfl
      · rw [decide_eq_false a3]; rfl
    cases a1 : EpV n c k r
    · repeat' (first
        | ((conv => whnf); (first
          | refine draw_plan (id := 7) [] [] (.take 0 (.take 1 (.take 2 (.take 3 (.take 4 (.take 5 (.run 6 (.run 7 (.run 8 (.run 9 (.take 10 .done))))))))))) (by kernel_rfl) (by kernel_rfl) ?_
          | refine draw_plan (id := 8) [] [] (.take 0 (.take 1 (.take 2 (.take 3 (.take 4 (.take 6 (.two 5 (.two 7 (.take 8 (.take 9 (.take 10 (.run 11 (.run 12 (.take 13 .done)))))) 11 (.run 7 (.take 8 (.take 9 (.take 10 (.run 12 (.take 13 .done))))))) 11 (.run 5 (.run 7 (.take 8 (.take 9 (.take 10 (.run 12 (.take 13 .done)))))))))))))) (by kernel_rfl) (by kernel_rfl) ?_
          | refine draw_plan (id := 11) [] [] (.take 0 (.take 2 (.run 1 (.take 3 (.run 4 (.take 5 .done)))))) (by kernel_rfl) (by kernel_rfl) ?_
          | refine brK_dec (fun _ => ?_) (fun _ => ?_)
          | refine brK_ndec (fun _ => ?_) (fun _ => ?_)
          | refine brK_not (fun _ => ?_) (fun _ => ?_)
          | refine brK_in (fun _ => ?_) (fun _ => ?_)
          | refine And.intro (by first | exact rfl | exact ⟨_, rfl, rfl⟩ | exact ⟨rfl, rfl, rfl⟩ | exact of_decide_eq_true rfl | exact trivial | assumption | omega | (show (_ ≤ _ ∧ _ ≤ _); omega) | (simp; omega) | exact ⟨by first | omega | (simp; omega), _, rfl, rfl⟩) ?_
          | refine Both.mk ?_ ?_
          | refine Exists.intro _ (And.intro rfl ?_)
          | refine fun _ => ?_))
        | exact rfl)
      all_goals first
        | exact h.r e1
        | (exfalso; simp_all; done)
        | skip
    · obtain ⟨⟨n0, n1⟩, ⟨r0, r1⟩, b1, b2, b3, b4, b5⟩ := EpV_out a1
      repeat' (first
        | ((conv => whnf); (first
          | refine draw_plan (id := 7) [] [] (.take 0 (.take 1 (.take 2 (.take 3 (.take 4 (.take 5 (.run 6 (.run 7 (.run 8 (.run 9 (.take 10 .done))))))))))) (by kernel_rfl) (by kernel_rfl) ?_
          | refine draw_plan (id := 8) [] [] (.take 0 (.take 1 (.take 2 (.take 3 (.take 4 (.take 6 (.two 5 (.two 7 (.take 8 (.take 9 (.take 10 (.run 11 (.run 12 (.take 13 .done)))))) 11 (.run 7 (.take 8 (.take 9 (.take 10 (.run 12 (.take 13 .done))))))) 11 (.run 5 (.run 7 (.take 8 (.take 9 (.take 10 (.run 12 (.take 13 .done)))))))))))))) (by kernel_rfl) (by kernel_rfl) ?_
          | refine draw_plan (id := 11) [] [] (.take 0 (.take 2 (.run 1 (.take 3 (.run 4 (.take 5 .done)))))) (by kernel_rfl) (by kernel_rfl) ?_
          | refine brK_dec (fun _ => ?_) (fun _ => ?_)
          | refine brK_ndec (fun _ => ?_) (fun _ => ?_)
          | refine brK_not (fun _ => ?_) (fun _ => ?_)
          | refine brK_in (fun _ => ?_) (fun _ => ?_)
          | refine And.intro (by first | exact rfl | exact ⟨_, rfl, rfl⟩ | exact ⟨rfl, rfl, rfl⟩ | exact of_decide_eq_true rfl | exact trivial | assumption | omega | (show (_ ≤ _ ∧ _ ≤ _); omega) | (simp; omega) | exact ⟨by first | omega | (simp; omega), _, rfl, rfl⟩) ?_
          | refine Both.mk ?_ ?_
          | refine Exists.intro _ (And.intro rfl ?_)
          | refine fun _ => ?_))
        | exact rfl)
      all_goals first
        | exact h.r e1
        | (exfalso; simp_all; done)
        | skip
      rename_i q1 q2 q3 q4
      exact absurd ⟨q1, q2, q3, by omega⟩ hall
end Go.Proofs.YtlhbdhccddadaaaDoor
