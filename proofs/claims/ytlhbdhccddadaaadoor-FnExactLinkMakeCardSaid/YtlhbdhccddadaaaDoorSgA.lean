/-
Signatures and certificates: how the program and the reference make them.
No conditions.
-/
import Derived.Test.YtlhbdhccddadaaaDoorCkB
namespace Go.Proofs.YtlhbdhccddadaaaDoor
open Go Go.Vc
set_option maxHeartbeats 2000000
set_option maxRecDepth 10000
def signV (s d : Int) : Int := if (inR s 1 996 && inR d 0 990) = true then s * (d + 1) % 997 else 0
theorem signV_rng (s d : Int) : 0 ≤ signV s d ∧ signV s d ≤ 996 := by
  unfold signV
  split <;> omega
def c_spec_SignMake : Con := ⟨0, 0, false, fun xs hs _ K => match xs with
  | [.val (.int .i64 s), .val (.int .i64 d)] => hs = [] ∧ K (I (signV s d)) [] []
  | _ => False⟩
theorem k_spec_SignMake : Keeps' Tryd.prog 30 c_spec_SignMake := by
  refine keeps_of_vc mix TyT_ok (cok_cons k_spec_l4Key Tryd.func54 rfl rfl (cok_cons k_spec_l2Digest Tryd.func53 rfl rfl cok_nil)) Tryd.func30 rfl rfl rfl ?_
  intro aargs hs Fs K h
  simp only [c_spec_SignMake] at h
  split at h
  case h_2 => exact h.elim
  rename_i s d
  obtain ⟨rfl, h⟩ := h
  have no : ∀ {b : Int}, signV s d = b → K (I b) [] [] := fun e => by rw [← e]; exact h
  cases e1 : inR s 1 996 <;> cases e2 : inR d 0 990
  all_goals try have r1 := inR_out e1
  all_goals try have r2 := inR_out e2
  all_goals try have hb := mul_bound (a := s) (b := d + 1) (by omega) (by omega) (by omega) (by omega)
  all_goals repeat' (first
    | ((conv => whnf); (first
      | refine brK_dec (fun _ => ?_) (fun _ => ?_)
      | refine brK_ndec (fun _ => ?_) (fun _ => ?_)
      | refine brK_not (fun _ => ?_) (fun _ => ?_)
      | refine brK_in (fun _ => ?_) (fun _ => ?_)
      | refine And.intro (by first | exact rfl | exact ⟨_, rfl, rfl⟩ | exact ⟨rfl, rfl, rfl⟩ | exact of_decide_eq_true rfl | exact trivial | assumption | omega | (show (_ ≤ _ ∧ _ ≤ _); omega) | (simp; omega) | exact ⟨by first | omega | (simp; omega), _, rfl, rfl⟩) ?_
      | refine Both.mk ?_ ?_
      | refine Exists.intro _ (And.intro rfl ?_)
      | refine fun _ => ?_))
    | exact rfl)
  all_goals first
    | exact no (by simp_all [signV])
    | (exfalso; simp_all; done)
theorem k_impl_SignMake : Keeps' Tryd.prog 36 c_spec_SignMake := by
  refine keeps_of_vc mix TyT_ok (cok_cons k_impl_inGroup Tryd.func64 rfl rfl (cok_cons k_impl_isDigest Tryd.func65 rfl rfl cok_nil)) Tryd.func36 rfl rfl rfl ?_
  intro aargs hs Fs K h
  simp only [c_spec_SignMake] at h
  split at h
  case h_2 => exact h.elim
  rename_i s d
  obtain ⟨rfl, h⟩ := h
  have no : ∀ {b : Int}, signV s d = b → K (I b) [] [] := fun e => by rw [← e]; exact h
  cases e1 : inR s 1 996 <;> cases e2 : inR d 0 990
  all_goals try have r1 := inR_out e1
  all_goals try have r2 := inR_out e2
  all_goals try have hb := mul_bound (a := s) (b := d + 1) (by omega) (by omega) (by omega) (by omega)
  all_goals repeat' (first
    | ((conv => whnf); (first
      | refine brK_dec (fun _ => ?_) (fun _ => ?_)
      | refine brK_ndec (fun _ => ?_) (fun _ => ?_)
      | refine brK_not (fun _ => ?_) (fun _ => ?_)
      | refine brK_in (fun _ => ?_) (fun _ => ?_)
      | refine And.intro (by first | exact rfl | exact ⟨_, rfl, rfl⟩ | exact ⟨rfl, rfl, rfl⟩ | exact of_decide_eq_true rfl | exact trivial | assumption | omega | (show (_ ≤ _ ∧ _ ≤ _); omega) | (simp; omega) | exact ⟨by first | omega | (simp; omega), _, rfl, rfl⟩) ?_
      | refine Both.mk ?_ ?_
      | refine Exists.intro _ (And.intro rfl ?_)
      | refine fun _ => ?_))
    | exact rfl)
  all_goals first
    | exact no (by simp_all [signV])
    | (exfalso; simp_all; done)
def sgnL (g : List Int) (i : Nat) : List Int := ((List.range i).filter fun (j : Nat) => decide (g.getD j 0 ≠ 0)).map fun (j : Nat) => (j : Int)
def sgnOk (k : List Int) (d : Int) (g : List Int) (i : Nat) : Bool := (List.range i).all fun j => decide (g.getD j 0 = 0) || sgV (k.getD j 0) d (g.getD j 0)
def cmkV (c k : List Int) (d : Int) (g : List Int) : Bool :=
  keysV c k && (inR d 0 990 && (decide (g.length = c.length) && (sgnOk k d g c.length && decide (quo c ≤ wgt c (sgnL g c.length)))))
theorem sgnL_succ (g : List Int) (i : Nat) : sgnL g (i + 1) = sgnL g i ++ (if g.getD i 0 = 0 then [] else [(i : Int)]) := by
  unfold sgnL
  rw [List.range_succ, List.filter_append, List.map_append]
  congr 1
  by_cases h : g.getD i 0 = 0
  · rw [if_pos h, List.filter_cons_of_neg (by simpa using h)]; rfl
  · rw [if_neg h, List.filter_cons_of_pos (by simpa using h)]; rfl
theorem sgnL_no {g : List Int} {i : Nat} {x : Int} (hx : g[i]? = some x) (h : x = 0) : sgnL g (i + 1) = sgnL g i := by
  rw [sgnL_succ, getD_of hx, if_pos h, List.append_nil]
theorem sgnL_yes {g : List Int} {i : Nat} {x : Int} (hx : g[i]? = some x) (h : ¬ x = 0) : sgnL g (i + 1) = sgnL g i ++ [(i : Int)] := by
  rw [sgnL_succ, getD_of hx, if_neg h]
theorem sgnL_len (g : List Int) (i : Nat) : (sgnL g i).length ≤ i := by
  have h := List.length_filter_le (fun j => decide (g.getD j 0 ≠ 0)) (List.range i)
  rw [List.length_range] at h
  simpa only [sgnL, List.length_map] using h
theorem sgnL_mem {g : List Int} {i : Nat} {x : Int} (h : x ∈ sgnL g i) : 0 ≤ x ∧ x < i ∧ g.getD x.toNat 0 ≠ 0 := by
  simp only [sgnL, List.mem_map, List.mem_filter, List.mem_range, decide_eq_true_eq] at h
  obtain ⟨j, ⟨h1, h2⟩, rfl⟩ := h
  exact ⟨by omega, by omega, by simpa using h2⟩
theorem sgnOk_succ {k : List Int} {d : Int} {g : List Int} {i : Nat} (h : sgnOk k d g i = true) (h2 : (decide (g.getD i 0 = 0) || sgV (k.getD i 0) d (g.getD i 0)) = true) : sgnOk k d g (i + 1) = true := by
  simp only [sgnOk, List.range_succ, List.all_append, Bool.and_eq_true] at h ⊢
  exact ⟨h, by simpa using h2⟩
theorem sgnOk_no {k : List Int} {d : Int} {g : List Int} {i n : Nat} (hi : i < n) (h2 : (decide (g.getD i 0 = 0) || sgV (k.getD i 0) d (g.getD i 0)) = false) : sgnOk k d g n = false := by
  simp only [sgnOk, List.all_eq_false, List.mem_range]
  exact ⟨i, hi, by rw [h2]; simp⟩
theorem memV_snoc {c s : List Int} {x : Int} (h : memV c s = true) (h0 : 0 ≤ x) (h1 : x < c.length) (h2 : ∀ y ∈ s, y < x) : memV c (s ++ [x]) = true := by
  refine mem_yes fun j hj => ?_
  rw [List.length_append, List.length_singleton] at hj
  rcases Nat.lt_or_ge j s.length with hl | hl
  · have hs := mem_all h j hl
    unfold mcell at hs ⊢
    have e1 : (s ++ [x]).getD j 0 = s.getD j 0 := by simp [List.getD, List.getElem?_append_left hl]
    have e2 : (s ++ [x]).getD (j - 1) 0 = s.getD (j - 1) 0 := by simp [List.getD, List.getElem?_append_left (show j - 1 < s.length by omega)]
    rw [e1, e2]
    exact hs
  · have e : j = s.length := by omega
    subst e
    have hx : (s ++ [x])[s.length]? = some x := by simp
    rcases Nat.eq_zero_or_pos s.length with hz | hz
    · have : s = [] := List.eq_nil_of_length_eq_zero hz
      subst this
      exact mcell_first (x := x) (by simp) (by simp [inR]; omega)
    · have hy : (s ++ [x])[s.length - 1]? = some s[s.length - 1] := by rw [List.getElem?_append_left (by omega)]; exact List.getElem?_eq_getElem (by omega)
      exact mcell_ok hx (by simp [inR]; omega) hy (h2 _ (List.getElem_mem _))
theorem sgnL_memV (c g : List Int) : ∀ i : Nat, i ≤ c.length → memV c (sgnL g i) = true
  | 0, _ => rfl
  | i + 1, h => by
    have ih := sgnL_memV c g i (by omega)
    rw [sgnL_succ]
    split
    · rw [List.append_nil]; exact ih
    · exact memV_snoc ih (by omega) (by omega) fun y hy => (sgnL_mem hy).2.1
theorem sumT {g : List Int} {i : Nat} {x : Int} (hx : g[i]? = some x) : (g.take (i + 1)).sum % 997 = ((g.take i).sum % 997 + x) % 997 := by
  rw [sum_take hx, Int.emod_add_emod]
theorem sgV_out {p d g : Int} (h : sgV p d g = true) : 1 ≤ g ∧ g ≤ 996 := by
  simp only [sgV, Bool.and_eq_true] at h
  exact inR_out h.2.2.1
def cmkC (c k : List Int) (d : Int) (g : List Int) (K : AV → List AO → List Fam → Prop) : Prop :=
  Both (cmkV c k d g = true → K (.tup [.agg [I d, .own 0, I (g.sum % 997)], B true]) [.iarr (sgnL g c.length)] [])
    (cmkV c k d g = false → K (.tup [.agg [I 0, .val (.slice none 0 0), I 0], B false]) [] [])
def c_spec_CertMake : Con := ⟨1, 0, false, fun xs hs _ K => match xs with
  | [.ints c, .ints k, .val (.int .i64 d), .ints g] => hs = [] ∧ c.length < 2000000 ∧ k.length < 2000000 ∧ g.length < 2000000 ∧ Both (cmkV c k d g = true → K (.tup [.agg [I d, .own 0, I (g.sum % 997)], B true]) [.iarr (sgnL g c.length)] [])
    (cmkV c k d g = false → K (.tup [.agg [I 0, .val (.slice none 0 0), I 0], B false]) [] [])
  | _ => False⟩
theorem k_spec_CertMake : Keeps' Tryd.prog 32 c_spec_CertMake := by
  refine keeps_of_vc mix TyT_ok (cok_cons k_spec_l4Keys Tryd.func51 rfl rfl (cok_cons k_spec_l2Digest Tryd.func53 rfl rfl (cok_cons k_spec_SignCheck Tryd.func57 rfl rfl (cok_cons k_spec_l1Weight Tryd.func58 rfl rfl (cok_cons k_spec_l1Quorum Tryd.func59 rfl rfl cok_nil))))) Tryd.func32 rfl rfl rfl ?_
  intro aargs hs Fs K h
  simp only [c_spec_CertMake] at h
  split at h
  case h_2 => exact h.elim
  rename_i c k d g
  obtain ⟨rfl, hc, hk, hg, h⟩ := h
  by_cases hall : keysV c k = true ∧ inR d 0 990 = true ∧ g.length = c.length
  · obtain ⟨a1, a2, a3⟩ := hall
    obtain ⟨b1, b2, b3, b4, b5, b6⟩ := keys_out a1
    have r2 := inR_out a2
    repeat' (first
      | ((conv => whnf); (first
        | refine draw_plan (id := 8) [] [] (.take 0 (.take 1 (.take 2 (.take 3 (.take 4 (.take 5 (.take 6 (.take 7 (.take 8 (.run 9 (.take 10 .done))))))))))) (by kernel_rfl) (by kernel_rfl) ?_
        | refine draw_plan (id := 11) [] [9] (.take 0 (.take 1 (.take 2 (.take 3 (.take 4 (.take 5 (.take 6 (.take 7 (.take 8 (.run 9 .done)))))))))) (by kernel_rfl) (by kernel_rfl) ?_
        | refine brK_dec (fun _ => ?_) (fun _ => ?_)
        | refine brK_ndec (fun _ => ?_) (fun _ => ?_)
        | refine brK_not (fun _ => ?_) (fun _ => ?_)
        | refine brK_in (fun _ => ?_) (fun _ => ?_)
        | refine And.intro (by first | exact rfl | exact ⟨_, rfl, rfl⟩ | exact ⟨rfl, rfl, rfl⟩ | exact of_decide_eq_true rfl | exact trivial | assumption | omega | (show (_ ≤ _ ∧ _ ≤ _); omega) | (simp; omega) | exact ⟨by first | omega | (simp; omega), _, rfl, rfl⟩) ?_
        | refine Both.mk ?_ ?_
        | refine Exists.intro _ (And.intro rfl ?_)
        | refine fun _ => ?_))
      | exact rfl)
    all_goals first
      | (exfalso; simp_all; done)
      | skip
    refine loop_in (ι := Nat) (fun i => mkS 79 [(0, .ints c), (1, .ints k), (2, I d), (3, .ints g), (8, .ptr 0 0), (9, B false), (10, .ptr 1 0), (11, I i)] [.cells [I 0, .val (.slice none 0 0), I 0], .cells [I d, .own 2, I ((g.take i).sum % 997)], .iarr (sgnL g i)] Fs) (fun i => i ≤ c.length ∧ sgnOk k d g i = true) (fun i => c.length - i) 0 [0, 2, 1] ⟨Nat.zero_le _, rfl⟩ ?_ ?_
    · repeat' (first
        | ((conv => whnf); (first
          | refine brK_dec (fun _ => ?_) (fun _ => ?_)
          | refine brK_ndec (fun _ => ?_) (fun _ => ?_)
          | refine brK_not (fun _ => ?_) (fun _ => ?_)
          | refine brK_in (fun _ => ?_) (fun _ => ?_)
          | refine And.intro (by first | exact rfl | exact ⟨_, rfl, rfl⟩ | exact ⟨rfl, rfl, rfl⟩ | exact of_decide_eq_true rfl | exact trivial | assumption | omega | (show (_ ≤ _ ∧ _ ≤ _); omega) | (simp; omega) | exact ⟨by first | omega | (simp; omega), _, rfl, rfl⟩) ?_
          | refine Both.mk ?_ ?_
          | refine Exists.intro _ (And.intro rfl ?_)
          | refine fun _ => ?_))
        | exact rfl)
    intro i ⟨hi, hok⟩
    have hsl := sgnL_len g i
    repeat' (first
      | ((conv => whnf); (first
        | refine draw_plan (id := 8) [] [] (.take 0 (.take 1 (.take 2 (.take 3 (.take 4 (.take 5 (.take 6 (.take 7 (.take 8 (.run 9 (.take 10 .done))))))))))) (by kernel_rfl) (by kernel_rfl) ?_
        | refine draw_plan (id := 11) [] [9] (.take 0 (.take 1 (.take 2 (.take 3 (.take 4 (.take 5 (.take 6 (.take 7 (.take 8 (.run 9 .done)))))))))) (by kernel_rfl) (by kernel_rfl) ?_
        | refine brK_dec (fun _ => ?_) (fun _ => ?_)
        | refine brK_ndec (fun _ => ?_) (fun _ => ?_)
        | refine brK_not (fun _ => ?_) (fun _ => ?_)
        | refine brK_in (fun _ => ?_) (fun _ => ?_)
        | refine And.intro (by first | exact rfl | exact (by first | exact sgnL_memV c g i hi | exact b5) | exact ⟨_, rfl, rfl⟩ | exact ⟨rfl, rfl, rfl⟩ | exact of_decide_eq_true rfl | exact trivial | assumption | omega | (show (_ ≤ _ ∧ _ ≤ _); omega) | (simp; omega) | exact ⟨by first | omega | (simp; omega), _, rfl, rfl⟩) ?_
        | refine Both.mk ?_ ?_
        | refine Exists.intro _ (And.intro rfl ?_)
        | refine fun _ => ?_))
      | exact rfl)
    · rename_i x hx hz
      have hx : g[i]? = some x := hx
      have e1 := sgnL_no hx hz
      have e2 : (g.take (i + 1)).sum % 997 = (g.take i).sum % 997 := by rw [sum_take hx, hz, Int.add_zero]
      refine ⟨i + 1, [0, 1, 2], ⟨by omega, sgnOk_succ hok (by rw [getD_of hx, hz]; rfl)⟩, by omega, ?_⟩
      repeat' (first
        | ((conv => whnf); (first
          | refine brK_dec (fun _ => ?_) (fun _ => ?_)
          | refine brK_ndec (fun _ => ?_) (fun _ => ?_)
          | refine brK_not (fun _ => ?_) (fun _ => ?_)
          | refine brK_in (fun _ => ?_) (fun _ => ?_)
          | refine And.intro (by first | exact rfl | exact (by first | exact e1 | exact e2) | exact ⟨_, rfl, rfl⟩ | exact ⟨rfl, rfl, rfl⟩ | exact of_decide_eq_true rfl | exact trivial | assumption | omega | (show (_ ≤ _ ∧ _ ≤ _); omega) | (simp; omega) | exact ⟨by first | omega | (simp; omega), _, rfl, rfl⟩) ?_
          | refine Both.mk ?_ ?_
          | refine Exists.intro _ (And.intro rfl ?_)
          | refine fun _ => ?_))
        | exact rfl)
    · rename_i x hx hz y hy x' hx' hs
      have hx : g[i]? = some x := hx
      have hx' : g[i]? = some x' := hx'
      have hy : k[i]? = some y := hy
      obtain rfl : x = x' := Option.some.inj (hx.symm.trans hx')
      refine h.r ?_
      rw [cmkV, sgnOk_no (i := i) (by omega) (by rw [getD_of hx, getD_of hy, decide_eq_false hz, hs]; rfl)]
      simp
    · rename_i x hx hz y hy x' hx' hs x'' hx''
      have hx : g[i]? = some x := hx
      have hx' : g[i]? = some x' := hx'
      have hx'' : g[i]? = some x'' := hx''
      have hy : k[i]? = some y := hy
      obtain rfl : x = x' := Option.some.inj (hx.symm.trans hx')
      obtain rfl : x = x'' := Option.some.inj (hx.symm.trans hx'')
      have hb := sgV_out hs
      have e1 := sgnL_yes hx hz
      have e2 := sumT hx
      refine ⟨by show (_ ≤ _ ∧ _ ≤ _); omega, ?_⟩
      repeat' (first
        | ((conv => whnf); (first
          | refine brK_dec (fun _ => ?_) (fun _ => ?_)
          | refine brK_ndec (fun _ => ?_) (fun _ => ?_)
          | refine brK_not (fun _ => ?_) (fun _ => ?_)
          | refine brK_in (fun _ => ?_) (fun _ => ?_)
          | refine And.intro (by first | exact rfl | exact ⟨_, rfl, rfl⟩ | exact ⟨rfl, rfl, rfl⟩ | exact of_decide_eq_true rfl | exact trivial | assumption | omega | (show (_ ≤ _ ∧ _ ≤ _); omega) | (simp; omega) | exact ⟨by first | omega | (simp; omega), _, rfl, rfl⟩) ?_
          | refine Both.mk ?_ ?_
          | refine Exists.intro _ (And.intro rfl ?_)
          | refine fun _ => ?_))
        | exact rfl)
      refine ⟨i + 1, [0, 1, 2], ⟨by omega, sgnOk_succ hok (by rw [getD_of hx, getD_of hy, hs, Bool.or_true])⟩, by omega, ?_⟩
      rw [e1, e2]
      repeat' (first
        | ((conv => whnf); (first
          | refine brK_dec (fun _ => ?_) (fun _ => ?_)
          | refine brK_ndec (fun _ => ?_) (fun _ => ?_)
          | refine brK_not (fun _ => ?_) (fun _ => ?_)
          | refine brK_in (fun _ => ?_) (fun _ => ?_)
          | refine And.intro (by first | exact rfl | exact (by rw [List.take_length]) | exact ⟨_, rfl, rfl⟩ | exact ⟨rfl, rfl, rfl⟩ | exact of_decide_eq_true rfl | exact trivial | assumption | omega | (show (_ ≤ _ ∧ _ ≤ _); omega) | (simp; omega) | exact ⟨by first | omega | (simp; omega), _, rfl, rfl⟩) ?_
          | refine Both.mk ?_ ?_
          | refine Exists.intro _ (And.intro rfl ?_)
          | refine fun _ => ?_))
        | exact rfl)
    · rename_i hil hq
      obtain rfl : i = c.length := by omega
      exact h.r (by rw [cmkV, decide_eq_false (show ¬ quo c ≤ wgt c (sgnL g c.length) by omega)]; simp)
    · rename_i hil hq
      obtain rfl : i = c.length := by omega
      rw [List.take_of_length_le (by omega)]
      exact h.l (by rw [cmkV, a1, a2, decide_eq_true a3, hok, decide_eq_true (by omega)]; rfl)
  · have e1 : cmkV c k d g = false := by
      rw [cmkV]
      cases a1 : keysV c k
      · rfl
      cases a2 : inR d 0 990
      · rfl
      rw [decide_eq_false fun e => hall ⟨a1, a2, e⟩]
      rfl
    repeat' (first
      | ((conv => whnf); (first
        | refine draw_plan (id := 8) [] [] (.take 0 (.take 1 (.take 2 (.take 3 (.take 4 (.take 5 (.take 6 (.take 7 (.take 8 (.run 9 (.take 10 .done))))))))))) (by kernel_rfl) (by kernel_rfl) ?_
        | refine draw_plan (id := 11) [] [9] (.take 0 (.take 1 (.take 2 (.take 3 (.take 4 (.take 5 (.take 6 (.take 7 (.take 8 (.run 9 .done)))))))))) (by kernel_rfl) (by kernel_rfl) ?_
        | refine brK_dec (fun _ => ?_) (fun _ => ?_)
        | refine brK_ndec (fun _ => ?_) (fun _ => ?_)
        | refine brK_not (fun _ => ?_) (fun _ => ?_)
        | refine brK_in (fun _ => ?_) (fun _ => ?_)
        | refine And.intro (by first | exact rfl | exact ⟨_, rfl, rfl⟩ | exact ⟨rfl, rfl, rfl⟩ | exact of_decide_eq_true rfl | exact trivial | assumption | omega | (show (_ ≤ _ ∧ _ ≤ _); omega) | (simp; omega) | exact ⟨by first | omega | (simp; omega), _, rfl, rfl⟩) ?_
        | refine Both.mk ?_ ?_
        | refine Exists.intro _ (And.intro rfl ?_)
        | refine fun _ => ?_))
      | exact rfl)
    all_goals first
      | exact h.r e1
      | skip
    rename_i q1 q2 q3
    exact absurd ⟨q1, q2, by omega⟩ hall
theorem k_impl_CertMake : Keeps' Tryd.prog 37 c_spec_CertMake := by
  refine keeps_of_vc mix TyT_ok (cok_cons k_impl_keysFit Tryd.func66 rfl rfl (cok_cons k_impl_isDigest Tryd.func65 rfl rfl (cok_cons k_impl_SignCheck Tryd.func67 rfl rfl (cok_cons k_impl_MembersWeight Tryd.func68 rfl rfl (cok_cons k_impl_CommitteeQuorum Tryd.func69 rfl rfl cok_nil))))) Tryd.func37 rfl rfl rfl ?_
  intro aargs hs Fs K h
  simp only [c_spec_CertMake] at h
  split at h
  case h_2 => exact h.elim
  rename_i c k d g
  obtain ⟨rfl, hc, hk, hg, h⟩ := h
  by_cases hall : keysV c k = true ∧ g.length = c.length ∧ inR d 0 990 = true
  · obtain ⟨a1, a3, a2⟩ := hall
    obtain ⟨b1, b2, b3, b4, b5, b6⟩ := keys_out a1
    have r2 := inR_out a2
    repeat' (first
      | ((conv => whnf); (first
        | refine brK_dec (fun _ => ?_) (fun _ => ?_)
        | refine brK_ndec (fun _ => ?_) (fun _ => ?_)
        | refine brK_not (fun _ => ?_) (fun _ => ?_)
        | refine brK_in (fun _ => ?_) (fun _ => ?_)
        | refine And.intro (by first | exact rfl | exact ⟨_, rfl, rfl⟩ | exact ⟨rfl, rfl, rfl⟩ | exact of_decide_eq_true rfl | exact trivial | assumption | omega | (show (_ ≤ _ ∧ _ ≤ _); omega) | (simp; omega) | exact ⟨by first | omega | (simp; omega), _, rfl, rfl⟩) ?_
        | refine Both.mk ?_ ?_
        | refine Exists.intro _ (And.intro rfl ?_)
        | refine fun _ => ?_))
      | exact rfl)
    all_goals first
      | (exfalso; simp_all; done)
      | skip
    refine loop_in (ι := Nat) (fun i => mkS 73 [(0, .ints c), (1, .ints k), (2, I d), (3, .ints g), (8, .ptr 0 0), (9, B false), (10, .ptr 1 0), (33, .ints g), (34, I g.length), (35, I i)] [.cells [I 0, .val (.slice none 0 0), I 0], .cells [I d, .own 2, I ((g.take i).sum % 997)], .iarr (sgnL g i)] Fs) (fun i => i ≤ c.length ∧ sgnOk k d g i = true) (fun i => c.length - i) 0 [0, 2, 1] ⟨Nat.zero_le _, rfl⟩ ?_ ?_
    · repeat' (first
        | ((conv => whnf); (first
          | refine brK_dec (fun _ => ?_) (fun _ => ?_)
          | refine brK_ndec (fun _ => ?_) (fun _ => ?_)
          | refine brK_not (fun _ => ?_) (fun _ => ?_)
          | refine brK_in (fun _ => ?_) (fun _ => ?_)
          | refine And.intro (by first | exact rfl | exact ⟨_, rfl, rfl⟩ | exact ⟨rfl, rfl, rfl⟩ | exact of_decide_eq_true rfl | exact trivial | assumption | omega | (show (_ ≤ _ ∧ _ ≤ _); omega) | (simp; omega) | exact ⟨by first | omega | (simp; omega), _, rfl, rfl⟩) ?_
          | refine Both.mk ?_ ?_
          | refine Exists.intro _ (And.intro rfl ?_)
          | refine fun _ => ?_))
        | exact rfl)
    intro i ⟨hi, hok⟩
    have hsl := sgnL_len g i
    repeat' (first
      | ((conv => whnf); (first
        | refine brK_dec (fun _ => ?_) (fun _ => ?_)
        | refine brK_ndec (fun _ => ?_) (fun _ => ?_)
        | refine brK_not (fun _ => ?_) (fun _ => ?_)
        | refine brK_in (fun _ => ?_) (fun _ => ?_)
        | refine And.intro (by first | exact rfl | exact ⟨_, rfl, rfl⟩ | exact ⟨rfl, rfl, rfl⟩ | exact of_decide_eq_true rfl | exact trivial | assumption | omega | (show (_ ≤ _ ∧ _ ≤ _); omega) | (simp; omega) | exact ⟨by first | omega | (simp; omega), _, rfl, rfl⟩) ?_
        | refine Both.mk ?_ ?_
        | refine Exists.intro _ (And.intro rfl ?_)
        | refine fun _ => ?_))
      | exact rfl)
    · rename_i hx x hx' hz
      have hx : g[i]? = some x := hx'
      have e1 := sgnL_no hx hz
      have e2 : (g.take (i + 1)).sum % 997 = (g.take i).sum % 997 := by rw [sum_take hx, hz, Int.add_zero]
      refine ⟨i + 1, [0, 1, 2], ⟨by omega, sgnOk_succ hok (by rw [getD_of hx, hz]; rfl)⟩, by omega, ?_⟩
      repeat' (first
        | ((conv => whnf); (first
          | refine brK_dec (fun _ => ?_) (fun _ => ?_)
          | refine brK_ndec (fun _ => ?_) (fun _ => ?_)
          | refine brK_not (fun _ => ?_) (fun _ => ?_)
          | refine brK_in (fun _ => ?_) (fun _ => ?_)
          | refine And.intro (by first | exact rfl | exact (by first | exact e1 | exact e2) | exact ⟨_, rfl, rfl⟩ | exact ⟨rfl, rfl, rfl⟩ | exact of_decide_eq_true rfl | exact trivial | assumption | omega | (show (_ ≤ _ ∧ _ ≤ _); omega) | (simp; omega) | exact ⟨by first | omega | (simp; omega), _, rfl, rfl⟩) ?_
          | refine Both.mk ?_ ?_
          | refine Exists.intro _ (And.intro rfl ?_)
          | refine fun _ => ?_))
        | exact rfl)
    · rename_i hi' x hx hz y hy hs
      have hx : g[i]? = some x := hx
      have hy : k[i]? = some y := hy
      refine h.r ?_
      rw [cmkV, sgnOk_no (i := i) (by omega) (by rw [getD_of hx, getD_of hy, decide_eq_false hz, hs]; rfl)]
      simp
    · rename_i hi' x hx hz y hy hs
      have hx : g[i]? = some x := hx
      have hy : k[i]? = some y := hy
      have hb := sgV_out hs
      have e1 := sgnL_yes hx hz
      have e2 := sumT hx
      refine ⟨by show (_ ≤ _ ∧ _ ≤ _); omega, ?_⟩
      repeat' (first
        | ((conv => whnf); (first
          | refine brK_dec (fun _ => ?_) (fun _ => ?_)
          | refine brK_ndec (fun _ => ?_) (fun _ => ?_)
          | refine brK_not (fun _ => ?_) (fun _ => ?_)
          | refine brK_in (fun _ => ?_) (fun _ => ?_)
          | refine And.intro (by first | exact rfl | exact ⟨_, rfl, rfl⟩ | exact ⟨rfl, rfl, rfl⟩ | exact of_decide_eq_true rfl | exact trivial | assumption | omega | (show (_ ≤ _ ∧ _ ≤ _); omega) | (simp; omega) | exact ⟨by first | omega | (simp; omega), _, rfl, rfl⟩) ?_
          | refine Both.mk ?_ ?_
          | refine Exists.intro _ (And.intro rfl ?_)
          | refine fun _ => ?_))
        | exact rfl)
      refine ⟨i + 1, [0, 1, 2], ⟨by omega, sgnOk_succ hok (by rw [getD_of hx, getD_of hy, hs, Bool.or_true])⟩, by omega, ?_⟩
      rw [e1, e2]
      repeat' (first
        | ((conv => whnf); (first
          | refine brK_dec (fun _ => ?_) (fun _ => ?_)
          | refine brK_ndec (fun _ => ?_) (fun _ => ?_)
          | refine brK_not (fun _ => ?_) (fun _ => ?_)
          | refine brK_in (fun _ => ?_) (fun _ => ?_)
          | refine And.intro (by first | exact rfl | exact (by rw [List.take_length]) | exact ⟨_, rfl, rfl⟩ | exact ⟨rfl, rfl, rfl⟩ | exact of_decide_eq_true rfl | exact trivial | assumption | omega | (show (_ ≤ _ ∧ _ ≤ _); omega) | (simp; omega) | exact ⟨by first | omega | (simp; omega), _, rfl, rfl⟩) ?_
          | refine Both.mk ?_ ?_
          | refine Exists.intro _ (And.intro rfl ?_)
          | refine fun _ => ?_))
        | exact rfl)
    · rename_i hil hq
      obtain rfl : i = c.length := by omega
      rw [b1, sgnL_memV c g c.length (Nat.le_refl _)] at hq
      simp only [Bool.and_self, if_true] at hq
      exact h.r (by rw [cmkV, decide_eq_false (show ¬ quo c ≤ wgt c (sgnL g c.length) by omega)]; simp)
    · rename_i hil hq
      obtain rfl : i = c.length := by omega
      rw [b1, sgnL_memV c g c.length (Nat.le_refl _)] at hq
      simp only [Bool.and_self, if_true] at hq
      rw [List.take_of_length_le (by omega)]
      exact h.l (by rw [cmkV, a1, a2, decide_eq_true a3, hok, decide_eq_true (by omega)]; rfl)
  · have e1 : cmkV c k d g = false := by
      rw [cmkV]
      cases a1 : keysV c k
      · rfl
      cases a2 : inR d 0 990
      · rfl
      rw [decide_eq_false fun e => hall ⟨a1, e, a2⟩]
      rfl
    repeat' (first
      | ((conv => whnf); (first
        | refine brK_dec (fun _ => ?_) (fun _ => ?_)
        | refine brK_ndec (fun _ => ?_) (fun _ => ?_)
        | refine brK_not (fun _ => ?_) (fun _ => ?_)
        | refine brK_in (fun _ => ?_) (fun _ => ?_)
        | refine And.intro (by first | exact rfl | exact ⟨_, rfl, rfl⟩ | exact ⟨rfl, rfl, rfl⟩ | exact of_decide_eq_true rfl | exact trivial | assumption | omega | (show (_ ≤ _ ∧ _ ≤ _); omega) | (simp; omega) | exact ⟨by first | omega | (simp; omega), _, rfl, rfl⟩) ?_
        | refine Both.mk ?_ ?_
        | refine Exists.intro _ (And.intro rfl ?_)
        | refine fun _ => ?_))
      | exact rfl)
    all_goals first
      | exact h.r e1
      | skip
    rename_i q1 q2 q3
    exact absurd ⟨q1, by omega, q3⟩ hall
end Go.Proofs.YtlhbdhccddadaaaDoor
