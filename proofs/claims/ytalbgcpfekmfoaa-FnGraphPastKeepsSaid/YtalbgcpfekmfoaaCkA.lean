/-
Members, weights and quorums: the functions of the program and of the reference.
No conditions.
-/
import Derived.Test.YtalbgcpfekmfoaaEvB
namespace Go.Proofs.Ytalbgcpfekmfoaa
open Go Go.Vc
set_option maxHeartbeats 1000000
set_option maxRecDepth 10000
theorem rng_cell {b : List Int} (hx : ∀ x ∈ b, 0 ≤ x ∧ x ≤ 999) {i : Nat} {x z : Int} (h : b[i]? = some x) (hz : 0 ≤ x → x ≤ 999 → -5000000000 ≤ z ∧ z ≤ 5000000000) : rng .i64 z := by
  have h1 := hx x (List.mem_of_getElem? h)
  have h2 := hz h1.1 h1.2
  show _ ≤ _ ∧ _ ≤ _
  omega
def mcell (c s : List Int) (i : Nat) : Bool := inR (s.getD i 0) 0 ((c.length : Int) - 1) && (decide (i = 0) || decide (s.getD (i - 1) 0 < s.getD i 0))
def memV (c s : List Int) : Bool := (List.range s.length).all (mcell c s)
theorem mem_no {c s : List Int} {i : Nat} {x : Int} (hx : s[i]? = some x) (h : mcell c s i = false) : memV c s = false := by
  have hi := (List.getElem?_eq_some_iff.1 hx).1
  simp only [memV, List.all_eq_false]
  exact ⟨i, by simpa using hi, by simp [h]⟩
theorem mem_yes {c s : List Int} (h : ∀ j, j < s.length → mcell c s j = true) : memV c s = true := by
  simp only [memV, List.all_eq_true]
  intro j hj
  exact h j (by simpa using hj)
theorem mem_all {c s : List Int} (h : memV c s = true) (j : Nat) (hj : j < s.length) : mcell c s j = true := by
  simp only [memV, List.all_eq_true] at h
  exact h j (by simpa using hj)
theorem getD_of {s : List Int} {i : Nat} {x : Int} (h : s[i]? = some x) : s.getD i 0 = x := by simp [List.getD, h]
theorem mcell_in {c s : List Int} {i : Nat} {x : Int} (hx : s[i]? = some x) (h : inR x 0 ((c.length : Int) - 1) = false) : mcell c s i = false := by
  unfold mcell
  rw [getD_of hx, h]
  rfl
theorem mcell_lt {c s : List Int} {i : Nat} {x y : Int} (hx : s[i]? = some x) (h0 : 0 < i) (hy : s[i - 1]? = some y) (h : x ≤ y) : mcell c s i = false := by
  have h1 : ¬ i = 0 := by omega
  have h2 : ¬ y < x := by omega
  unfold mcell
  rw [getD_of hx, getD_of hy, decide_eq_false h1, decide_eq_false h2]
  simp
theorem mcell_ok {c s : List Int} {i : Nat} {x y : Int} (hx : s[i]? = some x) (h1 : inR x 0 ((c.length : Int) - 1) = true) (hy : s[i - 1]? = some y) (h : y < x) : mcell c s i = true := by
  unfold mcell
  rw [getD_of hx, getD_of hy, h1, decide_eq_true h]
  simp
theorem mcell_first {c s : List Int} {x : Int} (hx : s[0]? = some x) (h1 : inR x 0 ((c.length : Int) - 1) = true) : mcell c s 0 = true := by
  unfold mcell
  rw [getD_of hx, h1]
  simp
theorem mem_rng {c s : List Int} (h : memV c s = true) {i : Nat} {m : Int} (hm : s[i]? = some m) : 0 ≤ m ∧ m < c.length := by
  have h1 := mem_all h i (List.getElem?_eq_some_iff.1 hm).1
  unfold mcell at h1
  rw [getD_of hm, Bool.and_eq_true] at h1
  have h2 := h1.1
  simp [inR] at h2
  omega
theorem mem_low {c s : List Int} (h : memV c s = true) : ∀ (i : Nat) (m : Int), s[i]? = some m → (i : Int) ≤ m
  | 0, m, hm => (mem_rng h hm).1
  | i + 1, m, hm => by
    have hi := (List.getElem?_eq_some_iff.1 hm).1
    have h1 := mem_all h (i + 1) hi
    have hy : s[i]? = some s[i] := List.getElem?_eq_getElem (by omega)
    have h2 := mem_low h i _ hy
    simp only [mcell, getD_of hm, Nat.add_sub_cancel, getD_of hy, Bool.and_eq_true, Bool.or_eq_true, decide_eq_true_eq] at h1
    omega
theorem mem_len {c s : List Int} (h : memV c s = true) : s.length ≤ c.length := by
  rcases Nat.eq_zero_or_pos s.length with h0 | h0
  · omega
  · have hx : s[s.length - 1]? = some s[s.length - 1] := List.getElem?_eq_getElem (by omega)
    have h1 := mem_low h _ _ hx
    have h2 := mem_rng h hx
    omega
def wgt (c s : List Int) : Int := (s.map fun m => c.getD m.toNat 0).sum
theorem wgt_take {c s : List Int} {i : Nat} {m x : Int} (hm : s[i]? = some m) (hx : c[m.toNat]? = some x) : wgt c (s.take (i + 1)) = wgt c (s.take i) + x := by
  rw [List.take_add_one, hm]
  simp [wgt, hx]
theorem wgt_bound {c : List Int} (hc : ∀ x ∈ c, 0 ≤ x ∧ x ≤ 999) : ∀ s : List Int, 0 ≤ wgt c s ∧ wgt c s ≤ 999 * s.length
  | [] => by simp [wgt]
  | m :: s => by
    have h := wgt_bound hc s
    have h1 : 0 ≤ c.getD m.toNat 0 ∧ c.getD m.toNat 0 ≤ 999 := by
      rcases Nat.lt_or_ge m.toNat c.length with hl | hl
      · have := hc c[m.toNat] (List.getElem_mem hl)
        simpa [List.getD, hl] using this
      · simp [List.getD, hl]
    simp only [wgt, List.map_cons, List.sum_cons, List.length_cons] at h ⊢
    omega
theorem wgt_i {c s : List Int} (hc : ∀ x ∈ c, 0 ≤ x ∧ x ≤ 999) (i : Nat) : 0 ≤ wgt c (s.take i) ∧ wgt c (s.take i) ≤ 999 * i := by
  have h := wgt_bound hc (s.take i)
  have h2 : (s.take i).length ≤ i := by simp; omega
  omega
theorem com_out {c : List Int} (h : comV c = true) : 1 ≤ c.length ∧ c.length ≤ 7 ∧ ∀ x ∈ c, 0 ≤ x ∧ x ≤ 999 := by
  simp [comV, inR] at h
  exact ⟨by omega, by omega, fun x hx => by have := h.1 x hx; omega⟩
theorem sum_take {c : List Int} {i : Nat} {x : Int} (hx : c[i]? = some x) : (c.take (i + 1)).sum = (c.take i).sum + x := by
  rw [List.take_add_one, hx]
  simp
theorem sum_bound : ∀ c : List Int, (∀ x ∈ c, 0 ≤ x ∧ x ≤ 999) → 0 ≤ c.sum ∧ c.sum ≤ 999 * c.length
  | [], _ => by simp
  | x :: c, h => by
    have h1 := h x (by simp)
    have h2 := sum_bound c fun y hy => h y (by simp [hy])
    simp only [List.sum_cons, List.length_cons]
    omega
theorem sum_i {c : List Int} (hc : ∀ x ∈ c, 0 ≤ x ∧ x ≤ 999) (i : Nat) : 0 ≤ (c.take i).sum ∧ (c.take i).sum ≤ 999 * i := by
  have h := sum_bound (c.take i) fun x hx => hc x (List.mem_of_mem_take hx)
  have h2 : (c.take i).length ≤ i := by simp; omega
  omega
def quo (c : List Int) : Int := 2 * c.sum / 3 + 1
def c_spec_l1Members : Con := ⟨0, 0, false, fun xs hs _ K => match xs with
  | [.ints c, .ints s] => hs = [] ∧ c.length < 2000000 ∧ s.length < 2000000 ∧ K (B (memV c s)) [] []
  | _ => False⟩
theorem k_spec_l1Members : Keeps' Try.prog 84 c_spec_l1Members := by
  refine keeps_of_vc mix TyT_ok (cok_cons k_spec_l6In Try.func54 rfl rfl cok_nil) Try.func84 rfl rfl rfl ?_
  intro aargs hs Fs K h
  simp only [c_spec_l1Members] at h
  split at h
  case h_2 => exact h.elim
  rename_i c s
  obtain ⟨rfl, hc, hs, h⟩ := h
  have no : ∀ {b : Bool}, memV c s = b → K (B b) [] [] := fun e => by rw [← e]; exact h
  repeat' (first|((conv=>whnf); (first|refine brK_dec (fun _=>?_) (fun _=>?_)|refine brK_ndec (fun _=>?_) (fun _=>?_)|refine brK_not (fun _=>?_) (fun _=>?_)|refine brK_in (fun _=>?_) (fun _=>?_)|refine And.intro (by first|exact rfl|exact ⟨_,rfl,rfl⟩|exact ⟨rfl,rfl,rfl⟩|exact of_decide_eq_true rfl|exact trivial|assumption|omega|(show (_ ≤ _ ∧ _ ≤ _); omega)|(simp; omega)|exact ⟨by first|omega|(simp; omega),_,rfl,rfl⟩) ?_|refine Quo.l (And.intro (by first|exact rfl|assumption|omega|(simp; omega)) ?_)|refine Quo.r (And.intro (by omega) ?_)|refine Both.mk ?_ ?_|refine Exists.intro _ (And.intro rfl ?_)|refine fun _=>?_))|exact rfl)
  refine loop_in (ι := Nat) (fun i => mkS 37 [(0, .ints c), (1, .ints s), (4, B false), (5, I i)] [] Fs) (fun i => i ≤ s.length ∧ ∀ j, j < i → mcell c s j = true) (fun i => s.length - i) 0 [] ⟨Nat.zero_le _, fun j hj => absurd hj (by omega)⟩ ?_ ?_
  · repeat' (first|((conv=>whnf); (first|refine brK_dec (fun _=>?_) (fun _=>?_)|refine brK_ndec (fun _=>?_) (fun _=>?_)|refine brK_not (fun _=>?_) (fun _=>?_)|refine brK_in (fun _=>?_) (fun _=>?_)|refine And.intro (by first|exact rfl|exact ⟨_,rfl,rfl⟩|exact ⟨rfl,rfl,rfl⟩|exact of_decide_eq_true rfl|exact trivial|assumption|omega|(show (_ ≤ _ ∧ _ ≤ _); omega)|(simp; omega)|exact ⟨by first|omega|(simp; omega),_,rfl,rfl⟩) ?_|refine Quo.l (And.intro (by first|exact rfl|assumption|omega|(simp; omega)) ?_)|refine Quo.r (And.intro (by omega) ?_)|refine Both.mk ?_ ?_|refine Exists.intro _ (And.intro rfl ?_)|refine fun _=>?_))|exact rfl)
  intro i ⟨hi, hall⟩
  repeat' (first|((conv=>whnf); (first|refine draw_plan (id := 4) [] [] (.take 0 (.take 1 (.take 2 (.take 3 (.take 4 (.take 5 (.take 6 (.run 7 (.take 8 (.take 9 (.take 10 (.take 11 (.take 12 (.take 13 (.take 14 (.take 15 (.take 16 (.take 17 (.take 18 (.take 19 (.take 20 (.take 21 (.take 22 (.take 23 (.take 24 .done))))))))))))))))))))))))) (by kernel_rfl) (by kernel_rfl) ?_|refine brK_dec (fun _=>?_) (fun _=>?_)|refine brK_ndec (fun _=>?_) (fun _=>?_)|refine brK_not (fun _=>?_) (fun _=>?_)|refine brK_in (fun _=>?_) (fun _=>?_)|refine And.intro (by first|exact rfl|exact ⟨_,rfl,rfl⟩|exact ⟨rfl,rfl,rfl⟩|exact of_decide_eq_true rfl|exact trivial|assumption|omega|(show (_ ≤ _ ∧ _ ≤ _); omega)|(simp; omega)|exact ⟨by first|omega|(simp; omega),_,rfl,rfl⟩) ?_|refine Quo.l (And.intro (by first|exact rfl|assumption|omega|(simp; omega)) ?_)|refine Quo.r (And.intro (by omega) ?_)|refine Both.mk ?_ ?_|refine Exists.intro _ (And.intro rfl ?_)|refine fun _=>?_))|exact rfl)
  · rename_i _ x hx hr
    exact no (mem_no hx (mcell_in hx hr))
  · rename_i _ x hx hr h0 y hy x' hx' hle
    have e : ((i : Int) - 1).toNat = i - 1 := by omega
    rw [e] at hy
    exact no (mem_no hx' (mcell_lt hx' (by omega) hy hle))
  · rename_i _ x hx hr h0 y hy x' hx' hle
    have e : ((i : Int) - 1).toNat = i - 1 := by omega
    rw [e] at hy
    have hx : s[i]? = some x := hx
    have hx' : s[i]? = some x' := hx'
    obtain rfl : x = x' := Option.some.inj (hx.symm.trans hx')
    have hm : mcell c s i = true := mcell_ok hx hr hy (by omega)
    refine ⟨i + 1, [], ⟨by omega, fun j hj => ?_⟩, by omega, ?_⟩
    · rcases Nat.lt_or_ge j i with h1 | h1
      · exact hall j h1
      · rw [show j = i by omega]; exact hm
    repeat' (first|((conv=>whnf); (first|refine brK_dec (fun _=>?_) (fun _=>?_)|refine brK_ndec (fun _=>?_) (fun _=>?_)|refine brK_not (fun _=>?_) (fun _=>?_)|refine brK_in (fun _=>?_) (fun _=>?_)|refine And.intro (by first|exact rfl|exact ⟨_,rfl,rfl⟩|exact ⟨rfl,rfl,rfl⟩|exact of_decide_eq_true rfl|exact trivial|assumption|omega|(show (_ ≤ _ ∧ _ ≤ _); omega)|(simp; omega)|exact ⟨by first|omega|(simp; omega),_,rfl,rfl⟩) ?_|refine Quo.l (And.intro (by first|exact rfl|assumption|omega|(simp; omega)) ?_)|refine Quo.r (And.intro (by omega) ?_)|refine Both.mk ?_ ?_|refine Exists.intro _ (And.intro rfl ?_)|refine fun _=>?_))|exact rfl)
  · rename_i _ x hx hr h0
    have e : i = 0 := by omega
    subst e
    have hm : mcell c s 0 = true := mcell_first hx hr
    refine ⟨0 + 1, [], ⟨by omega, fun j hj => by rw [show j = 0 by omega]; exact hm⟩, by omega, ?_⟩
    repeat' (first|((conv=>whnf); (first|refine brK_dec (fun _=>?_) (fun _=>?_)|refine brK_ndec (fun _=>?_) (fun _=>?_)|refine brK_not (fun _=>?_) (fun _=>?_)|refine brK_in (fun _=>?_) (fun _=>?_)|refine And.intro (by first|exact rfl|exact ⟨_,rfl,rfl⟩|exact ⟨rfl,rfl,rfl⟩|exact of_decide_eq_true rfl|exact trivial|assumption|omega|(show (_ ≤ _ ∧ _ ≤ _); omega)|(simp; omega)|exact ⟨by first|omega|(simp; omega),_,rfl,rfl⟩) ?_|refine Quo.l (And.intro (by first|exact rfl|assumption|omega|(simp; omega)) ?_)|refine Quo.r (And.intro (by omega) ?_)|refine Both.mk ?_ ?_|refine Exists.intro _ (And.intro rfl ?_)|refine fun _=>?_))|exact rfl)
  · rename_i hil
    exact no (mem_yes fun j hj => hall j (by omega))
def c_impl_committee_has : Con := ⟨0, 0, false, fun xs hs _ K => match xs with
  | [.ints c, .val (.int .i64 m)] => hs = [] ∧ c.length < 2000000 ∧ K (B (inR m 0 ((c.length : Int) - 1))) [] []
  | _ => False⟩
theorem k_impl_committee_has : Keeps' Try.prog 78 c_impl_committee_has := by
  refine keeps_of_vc mix TyT_ok cok_nil Try.func78 rfl rfl rfl ?_
  intro aargs hs Fs K h
  simp only [c_impl_committee_has] at h
  split at h
  case h_2 => exact h.elim
  rename_i c m
  obtain ⟨rfl, hc, h⟩ := h
  have no : ∀ {b : Bool}, inR m 0 ((c.length : Int) - 1) = b → K (B b) [] [] := fun e => by rw [← e]; exact h
  repeat' (first|((conv=>whnf); (first|refine brK_dec (fun _=>?_) (fun _=>?_)|refine brK_ndec (fun _=>?_) (fun _=>?_)|refine brK_not (fun _=>?_) (fun _=>?_)|refine brK_in (fun _=>?_) (fun _=>?_)|refine And.intro (by first|exact rfl|exact ⟨_,rfl,rfl⟩|exact ⟨rfl,rfl,rfl⟩|exact of_decide_eq_true rfl|exact trivial|assumption|omega|(show (_ ≤ _ ∧ _ ≤ _); omega)|(simp; omega)|exact ⟨by first|omega|(simp; omega),_,rfl,rfl⟩) ?_|refine Quo.l (And.intro (by first|exact rfl|assumption|omega|(simp; omega)) ?_)|refine Quo.r (And.intro (by omega) ?_)|refine Both.mk ?_ ?_|refine Exists.intro _ (And.intro rfl ?_)|refine fun _=>?_))|exact rfl)
  all_goals exact no (by rw [Bool.eq_iff_iff]; simp [inR]; omega)
theorem k_impl_committee_holds : Keeps' Try.prog 95 c_spec_l1Members := by
  refine keeps_of_vc mix TyT_ok (cok_cons k_impl_committee_has Try.func78 rfl rfl cok_nil) Try.func95 rfl rfl rfl ?_
  intro aargs hs Fs K h
  simp only [c_spec_l1Members] at h
  split at h
  case h_2 => exact h.elim
  rename_i c s
  obtain ⟨rfl, hc, hs, h⟩ := h
  have no : ∀ {b : Bool}, memV c s = b → K (B b) [] [] := fun e => by rw [← e]; exact h
  repeat' (first|((conv=>whnf); (first|refine brK_dec (fun _=>?_) (fun _=>?_)|refine brK_ndec (fun _=>?_) (fun _=>?_)|refine brK_not (fun _=>?_) (fun _=>?_)|refine brK_in (fun _=>?_) (fun _=>?_)|refine And.intro (by first|exact rfl|exact ⟨_,rfl,rfl⟩|exact ⟨rfl,rfl,rfl⟩|exact of_decide_eq_true rfl|exact trivial|assumption|omega|(show (_ ≤ _ ∧ _ ≤ _); omega)|(simp; omega)|exact ⟨by first|omega|(simp; omega),_,rfl,rfl⟩) ?_|refine Quo.l (And.intro (by first|exact rfl|assumption|omega|(simp; omega)) ?_)|refine Quo.r (And.intro (by omega) ?_)|refine Both.mk ?_ ?_|refine Exists.intro _ (And.intro rfl ?_)|refine fun _=>?_))|exact rfl)
  refine loop_in (ι := Nat) (fun i => mkS 32 [(0, .ints c), (1, .ints s), (4, B false), (7, .ints s), (8, I s.length), (9, I i)] [] Fs) (fun i => i ≤ s.length ∧ ∀ j, j < i → mcell c s j = true) (fun i => s.length - i) 0 [] ⟨Nat.zero_le _, fun j hj => absurd hj (by omega)⟩ ?_ ?_
  · repeat' (first|((conv=>whnf); (first|refine brK_dec (fun _=>?_) (fun _=>?_)|refine brK_ndec (fun _=>?_) (fun _=>?_)|refine brK_not (fun _=>?_) (fun _=>?_)|refine brK_in (fun _=>?_) (fun _=>?_)|refine And.intro (by first|exact rfl|exact ⟨_,rfl,rfl⟩|exact ⟨rfl,rfl,rfl⟩|exact of_decide_eq_true rfl|exact trivial|assumption|omega|(show (_ ≤ _ ∧ _ ≤ _); omega)|(simp; omega)|exact ⟨by first|omega|(simp; omega),_,rfl,rfl⟩) ?_|refine Quo.l (And.intro (by first|exact rfl|assumption|omega|(simp; omega)) ?_)|refine Quo.r (And.intro (by omega) ?_)|refine Both.mk ?_ ?_|refine Exists.intro _ (And.intro rfl ?_)|refine fun _=>?_))|exact rfl)
  intro i ⟨hi, hall⟩
  repeat' (first|((conv=>whnf); (first|refine brK_dec (fun _=>?_) (fun _=>?_)|refine brK_ndec (fun _=>?_) (fun _=>?_)|refine brK_not (fun _=>?_) (fun _=>?_)|refine brK_in (fun _=>?_) (fun _=>?_)|refine And.intro (by first|exact rfl|exact ⟨_,rfl,rfl⟩|exact ⟨rfl,rfl,rfl⟩|exact of_decide_eq_true rfl|exact trivial|assumption|omega|(show (_ ≤ _ ∧ _ ≤ _); omega)|(simp; omega)|exact ⟨by first|omega|(simp; omega),_,rfl,rfl⟩) ?_|refine Quo.l (And.intro (by first|exact rfl|assumption|omega|(simp; omega)) ?_)|refine Quo.r (And.intro (by omega) ?_)|refine Both.mk ?_ ?_|refine Exists.intro _ (And.intro rfl ?_)|refine fun _=>?_))|exact rfl)
  · rename_i _ x hx hr
    exact no (mem_no hx (mcell_in hx hr))
  · rename_i _ x hx hr h0 y hy hle
    have e : ((i : Int) - 1).toNat = i - 1 := by omega
    rw [e] at hy
    exact no (mem_no hx (mcell_lt hx (by omega) hy hle))
  · rename_i _ x hx hr h0 y hy hle
    have e : ((i : Int) - 1).toNat = i - 1 := by omega
    rw [e] at hy
    have hm : mcell c s i = true := mcell_ok hx hr hy (by omega)
    refine ⟨i + 1, [], ⟨by omega, fun j hj => ?_⟩, by omega, ?_⟩
    · rcases Nat.lt_or_ge j i with h1 | h1
      · exact hall j h1
      · rw [show j = i by omega]; exact hm
    repeat' (first|((conv=>whnf); (first|refine brK_dec (fun _=>?_) (fun _=>?_)|refine brK_ndec (fun _=>?_) (fun _=>?_)|refine brK_not (fun _=>?_) (fun _=>?_)|refine brK_in (fun _=>?_) (fun _=>?_)|refine And.intro (by first|exact rfl|exact ⟨_,rfl,rfl⟩|exact ⟨rfl,rfl,rfl⟩|exact of_decide_eq_true rfl|exact trivial|assumption|omega|(show (_ ≤ _ ∧ _ ≤ _); omega)|(simp; omega)|exact ⟨by first|omega|(simp; omega),_,rfl,rfl⟩) ?_|refine Quo.l (And.intro (by first|exact rfl|assumption|omega|(simp; omega)) ?_)|refine Quo.r (And.intro (by omega) ?_)|refine Both.mk ?_ ?_|refine Exists.intro _ (And.intro rfl ?_)|refine fun _=>?_))|exact rfl)
  · rename_i _ x hx hr h0
    have e : i = 0 := by omega
    subst e
    have hm : mcell c s 0 = true := mcell_first hx hr
    refine ⟨0 + 1, [], ⟨by omega, fun j hj => by rw [show j = 0 by omega]; exact hm⟩, by omega, ?_⟩
    repeat' (first|((conv=>whnf); (first|refine brK_dec (fun _=>?_) (fun _=>?_)|refine brK_ndec (fun _=>?_) (fun _=>?_)|refine brK_not (fun _=>?_) (fun _=>?_)|refine brK_in (fun _=>?_) (fun _=>?_)|refine And.intro (by first|exact rfl|exact ⟨_,rfl,rfl⟩|exact ⟨rfl,rfl,rfl⟩|exact of_decide_eq_true rfl|exact trivial|assumption|omega|(show (_ ≤ _ ∧ _ ≤ _); omega)|(simp; omega)|exact ⟨by first|omega|(simp; omega),_,rfl,rfl⟩) ?_|refine Quo.l (And.intro (by first|exact rfl|assumption|omega|(simp; omega)) ?_)|refine Quo.r (And.intro (by omega) ?_)|refine Both.mk ?_ ?_|refine Exists.intro _ (And.intro rfl ?_)|refine fun _=>?_))|exact rfl)
  · rename_i hil
    exact no (mem_yes fun j hj => hall j (by omega))
def c_spec_l1Weight : Con := ⟨0, 0, false, fun xs hs _ K => match xs with
  | [.ints c, .ints s] => hs = [] ∧ c.length < 2000 ∧ (∀ x ∈ c, 0 ≤ x ∧ x ≤ 999) ∧ memV c s = true ∧ K (I (wgt c s)) [] []
  | _ => False⟩
theorem k_spec_l1Weight : Keeps' Try.prog 85 c_spec_l1Weight := by
  refine keeps_of_vc mix TyT_ok cok_nil Try.func85 rfl rfl rfl ?_
  intro aargs hs Fs K h
  simp only [c_spec_l1Weight] at h
  split at h
  case h_2 => exact h.elim
  rename_i c s
  obtain ⟨rfl, hc, hx, hm, h⟩ := h
  have hsl := mem_len hm
  have hmr : ∀ {i : Nat} {m : Int}, s[i]? = some m → 0 ≤ m ∧ m < c.length := fun h => mem_rng hm h
  repeat' (first|((conv=>whnf); (first|refine brK_dec (fun _=>?_) (fun _=>?_)|refine brK_ndec (fun _=>?_) (fun _=>?_)|refine brK_not (fun _=>?_) (fun _=>?_)|refine brK_in (fun _=>?_) (fun _=>?_)|refine And.intro (by first|exact rfl|exact ⟨_,rfl,rfl⟩|exact ⟨rfl,rfl,rfl⟩|exact of_decide_eq_true rfl|exact trivial|assumption|omega|(show (_ ≤ _ ∧ _ ≤ _); omega)|(simp; omega)|exact ⟨by first|omega|(simp; omega),_,rfl,rfl⟩) ?_|refine Quo.l (And.intro (by first|exact rfl|assumption|omega|(simp; omega)) ?_)|refine Quo.r (And.intro (by omega) ?_)|refine Both.mk ?_ ?_|refine Exists.intro _ (And.intro rfl ?_)|refine fun _=>?_))|exact rfl)
  refine loop_in (ι := Nat) (fun i => mkS 23 [(0, .ints c), (1, .ints s), (4, I 0), (5, I (wgt c (s.take i))), (6, I i)] [] Fs) (fun i => i ≤ s.length) (fun i => s.length - i) 0 [] (Nat.zero_le _) ?_ ?_
  · repeat' (first|((conv=>whnf); (first|refine brK_dec (fun _=>?_) (fun _=>?_)|refine brK_ndec (fun _=>?_) (fun _=>?_)|refine brK_not (fun _=>?_) (fun _=>?_)|refine brK_in (fun _=>?_) (fun _=>?_)|refine And.intro (by first|exact rfl|exact ⟨_,rfl,rfl⟩|exact ⟨rfl,rfl,rfl⟩|exact of_decide_eq_true rfl|exact trivial|assumption|omega|(show (_ ≤ _ ∧ _ ≤ _); omega)|(simp; omega)|exact ⟨by first|omega|(simp; omega),_,rfl,rfl⟩) ?_|refine Quo.l (And.intro (by first|exact rfl|assumption|omega|(simp; omega)) ?_)|refine Quo.r (And.intro (by omega) ?_)|refine Both.mk ?_ ?_|refine Exists.intro _ (And.intro rfl ?_)|refine fun _=>?_))|exact rfl)
  intro i hi
  have hw := wgt_i (s := s) hx i
  repeat' (first|((conv=>whnf); (first|refine brK_dec (fun _=>?_) (fun _=>?_)|refine brK_ndec (fun _=>?_) (fun _=>?_)|refine brK_not (fun _=>?_) (fun _=>?_)|refine brK_in (fun _=>?_) (fun _=>?_)|refine And.intro (by first|exact rfl|exact (by first|exact (hmr (by assumption)).1|exact (hmr (by assumption)).2|exact rng_cell hx (by assumption) (by omega))|exact ⟨_,rfl,rfl⟩|exact ⟨rfl,rfl,rfl⟩|exact of_decide_eq_true rfl|exact trivial|assumption|omega|(show (_ ≤ _ ∧ _ ≤ _); omega)|(simp; omega)|exact ⟨by first|omega|(simp; omega),_,rfl,rfl⟩) ?_|refine Quo.l (And.intro (by first|exact rfl|exact (by first|exact (hmr (by assumption)).1|exact (hmr (by assumption)).2|exact rng_cell hx (by assumption) (by omega))|assumption|omega|(simp; omega)) ?_)|refine Quo.r (And.intro (by omega) ?_)|refine Both.mk ?_ ?_|refine Exists.intro _ (And.intro rfl ?_)|refine fun _=>?_))|exact rfl)
  · rename_i hil m hmm x hxx
    refine ⟨i + 1, [], by omega, by omega, ?_⟩
    have e := wgt_take hmm hxx
    repeat' (first|((conv=>whnf); (first|refine brK_dec (fun _=>?_) (fun _=>?_)|refine brK_ndec (fun _=>?_) (fun _=>?_)|refine brK_not (fun _=>?_) (fun _=>?_)|refine brK_in (fun _=>?_) (fun _=>?_)|refine And.intro (by first|exact rfl|exact e|exact ⟨_,rfl,rfl⟩|exact ⟨rfl,rfl,rfl⟩|exact of_decide_eq_true rfl|exact trivial|assumption|omega|(show (_ ≤ _ ∧ _ ≤ _); omega)|(simp; omega)|exact ⟨by first|omega|(simp; omega),_,rfl,rfl⟩) ?_|refine Quo.l (And.intro (by first|exact rfl|exact e|assumption|omega|(simp; omega)) ?_)|refine Quo.r (And.intro (by omega) ?_)|refine Both.mk ?_ ?_|refine Exists.intro _ (And.intro rfl ?_)|refine fun _=>?_))|exact rfl)
  · rename_i hil
    rw [List.take_of_length_le (by omega)]
    exact h
theorem k_impl_committee_weigh : Keeps' Try.prog 96 c_spec_l1Weight := by
  refine keeps_of_vc mix TyT_ok cok_nil Try.func96 rfl rfl rfl ?_
  intro aargs hs Fs K h
  simp only [c_spec_l1Weight] at h
  split at h
  case h_2 => exact h.elim
  rename_i c s
  obtain ⟨rfl, hc, hx, hm, h⟩ := h
  have hsl := mem_len hm
  have hmr : ∀ {i : Nat} {m : Int}, s[i]? = some m → 0 ≤ m ∧ m < c.length := fun h => mem_rng hm h
  repeat' (first|((conv=>whnf); (first|refine brK_dec (fun _=>?_) (fun _=>?_)|refine brK_ndec (fun _=>?_) (fun _=>?_)|refine brK_not (fun _=>?_) (fun _=>?_)|refine brK_in (fun _=>?_) (fun _=>?_)|refine And.intro (by first|exact rfl|exact ⟨_,rfl,rfl⟩|exact ⟨rfl,rfl,rfl⟩|exact of_decide_eq_true rfl|exact trivial|assumption|omega|(show (_ ≤ _ ∧ _ ≤ _); omega)|(simp; omega)|exact ⟨by first|omega|(simp; omega),_,rfl,rfl⟩) ?_|refine Quo.l (And.intro (by first|exact rfl|assumption|omega|(simp; omega)) ?_)|refine Quo.r (And.intro (by omega) ?_)|refine Both.mk ?_ ?_|refine Exists.intro _ (And.intro rfl ?_)|refine fun _=>?_))|exact rfl)
  refine loop_in (ι := Nat) (fun i => mkS 22 [(0, .ints c), (1, .ints s), (4, I 0), (5, I (wgt c (s.take i))), (8, .ints s), (9, I s.length), (10, I i)] [] Fs) (fun i => i ≤ s.length) (fun i => s.length - i) 0 [] (Nat.zero_le _) ?_ ?_
  · repeat' (first|((conv=>whnf); (first|refine brK_dec (fun _=>?_) (fun _=>?_)|refine brK_ndec (fun _=>?_) (fun _=>?_)|refine brK_not (fun _=>?_) (fun _=>?_)|refine brK_in (fun _=>?_) (fun _=>?_)|refine And.intro (by first|exact rfl|exact ⟨_,rfl,rfl⟩|exact ⟨rfl,rfl,rfl⟩|exact of_decide_eq_true rfl|exact trivial|assumption|omega|(show (_ ≤ _ ∧ _ ≤ _); omega)|(simp; omega)|exact ⟨by first|omega|(simp; omega),_,rfl,rfl⟩) ?_|refine Quo.l (And.intro (by first|exact rfl|assumption|omega|(simp; omega)) ?_)|refine Quo.r (And.intro (by omega) ?_)|refine Both.mk ?_ ?_|refine Exists.intro _ (And.intro rfl ?_)|refine fun _=>?_))|exact rfl)
  intro i hi
  have hw := wgt_i (s := s) hx i
  repeat' (first|((conv=>whnf); (first|refine brK_dec (fun _=>?_) (fun _=>?_)|refine brK_ndec (fun _=>?_) (fun _=>?_)|refine brK_not (fun _=>?_) (fun _=>?_)|refine brK_in (fun _=>?_) (fun _=>?_)|refine And.intro (by first|exact rfl|exact (by first|exact (hmr (by assumption)).1|exact (hmr (by assumption)).2|exact rng_cell hx (by assumption) (by omega))|exact ⟨_,rfl,rfl⟩|exact ⟨rfl,rfl,rfl⟩|exact of_decide_eq_true rfl|exact trivial|assumption|omega|(show (_ ≤ _ ∧ _ ≤ _); omega)|(simp; omega)|exact ⟨by first|omega|(simp; omega),_,rfl,rfl⟩) ?_|refine Quo.l (And.intro (by first|exact rfl|exact (by first|exact (hmr (by assumption)).1|exact (hmr (by assumption)).2|exact rng_cell hx (by assumption) (by omega))|assumption|omega|(simp; omega)) ?_)|refine Quo.r (And.intro (by omega) ?_)|refine Both.mk ?_ ?_|refine Exists.intro _ (And.intro rfl ?_)|refine fun _=>?_))|exact rfl)
  · rename_i hil m hmm x hxx
    refine ⟨i + 1, [], by omega, by omega, ?_⟩
    have e := wgt_take hmm hxx
    repeat' (first|((conv=>whnf); (first|refine brK_dec (fun _=>?_) (fun _=>?_)|refine brK_ndec (fun _=>?_) (fun _=>?_)|refine brK_not (fun _=>?_) (fun _=>?_)|refine brK_in (fun _=>?_) (fun _=>?_)|refine And.intro (by first|exact rfl|exact e|exact ⟨_,rfl,rfl⟩|exact ⟨rfl,rfl,rfl⟩|exact of_decide_eq_true rfl|exact trivial|assumption|omega|(show (_ ≤ _ ∧ _ ≤ _); omega)|(simp; omega)|exact ⟨by first|omega|(simp; omega),_,rfl,rfl⟩) ?_|refine Quo.l (And.intro (by first|exact rfl|exact e|assumption|omega|(simp; omega)) ?_)|refine Quo.r (And.intro (by omega) ?_)|refine Both.mk ?_ ?_|refine Exists.intro _ (And.intro rfl ?_)|refine fun _=>?_))|exact rfl)
  · rename_i hil
    rw [List.take_of_length_le (by omega)]
    exact h
def c_spec_l1Total : Con := ⟨0, 0, false, fun xs hs _ K => match xs with
  | [.ints c] => hs = [] ∧ c.length < 2000 ∧ (∀ x ∈ c, 0 ≤ x ∧ x ≤ 999) ∧ K (I c.sum) [] []
  | _ => False⟩
theorem k_spec_l1Total : Keeps' Try.prog 99 c_spec_l1Total := by
  refine keeps_of_vc mix TyT_ok cok_nil Try.func99 rfl rfl rfl ?_
  intro aargs hs Fs K h
  simp only [c_spec_l1Total] at h
  split at h
  case h_2 => exact h.elim
  rename_i c
  obtain ⟨rfl, hc, hx, h⟩ := h
  repeat' (first|((conv=>whnf); (first|refine brK_dec (fun _=>?_) (fun _=>?_)|refine brK_ndec (fun _=>?_) (fun _=>?_)|refine brK_not (fun _=>?_) (fun _=>?_)|refine brK_in (fun _=>?_) (fun _=>?_)|refine And.intro (by first|exact rfl|exact ⟨_,rfl,rfl⟩|exact ⟨rfl,rfl,rfl⟩|exact of_decide_eq_true rfl|exact trivial|assumption|omega|(show (_ ≤ _ ∧ _ ≤ _); omega)|(simp; omega)|exact ⟨by first|omega|(simp; omega),_,rfl,rfl⟩) ?_|refine Quo.l (And.intro (by first|exact rfl|assumption|omega|(simp; omega)) ?_)|refine Quo.r (And.intro (by omega) ?_)|refine Both.mk ?_ ?_|refine Exists.intro _ (And.intro rfl ?_)|refine fun _=>?_))|exact rfl)
  refine loop_in (ι := Nat) (fun i => mkS 18 [(0, .ints c), (2, I 0), (3, I (c.take i).sum), (4, I i)] [] Fs) (fun i => i ≤ c.length) (fun i => c.length - i) 0 [] (Nat.zero_le _) ?_ ?_
  · repeat' (first|((conv=>whnf); (first|refine brK_dec (fun _=>?_) (fun _=>?_)|refine brK_ndec (fun _=>?_) (fun _=>?_)|refine brK_not (fun _=>?_) (fun _=>?_)|refine brK_in (fun _=>?_) (fun _=>?_)|refine And.intro (by first|exact rfl|exact ⟨_,rfl,rfl⟩|exact ⟨rfl,rfl,rfl⟩|exact of_decide_eq_true rfl|exact trivial|assumption|omega|(show (_ ≤ _ ∧ _ ≤ _); omega)|(simp; omega)|exact ⟨by first|omega|(simp; omega),_,rfl,rfl⟩) ?_|refine Quo.l (And.intro (by first|exact rfl|assumption|omega|(simp; omega)) ?_)|refine Quo.r (And.intro (by omega) ?_)|refine Both.mk ?_ ?_|refine Exists.intro _ (And.intro rfl ?_)|refine fun _=>?_))|exact rfl)
  intro i hi
  have hw := sum_i hx i
  repeat' (first|((conv=>whnf); (first|refine brK_dec (fun _=>?_) (fun _=>?_)|refine brK_ndec (fun _=>?_) (fun _=>?_)|refine brK_not (fun _=>?_) (fun _=>?_)|refine brK_in (fun _=>?_) (fun _=>?_)|refine And.intro (by first|exact rfl|exact (rng_cell hx (by assumption) (by omega))|exact ⟨_,rfl,rfl⟩|exact ⟨rfl,rfl,rfl⟩|exact of_decide_eq_true rfl|exact trivial|assumption|omega|(show (_ ≤ _ ∧ _ ≤ _); omega)|(simp; omega)|exact ⟨by first|omega|(simp; omega),_,rfl,rfl⟩) ?_|refine Quo.l (And.intro (by first|exact rfl|exact (rng_cell hx (by assumption) (by omega))|assumption|omega|(simp; omega)) ?_)|refine Quo.r (And.intro (by omega) ?_)|refine Both.mk ?_ ?_|refine Exists.intro _ (And.intro rfl ?_)|refine fun _=>?_))|exact rfl)
  · rename_i hil x hxx
    refine ⟨i + 1, [], by omega, by omega, ?_⟩
    have e := sum_take hxx
    repeat' (first|((conv=>whnf); (first|refine brK_dec (fun _=>?_) (fun _=>?_)|refine brK_ndec (fun _=>?_) (fun _=>?_)|refine brK_not (fun _=>?_) (fun _=>?_)|refine brK_in (fun _=>?_) (fun _=>?_)|refine And.intro (by first|exact rfl|exact e|exact ⟨_,rfl,rfl⟩|exact ⟨rfl,rfl,rfl⟩|exact of_decide_eq_true rfl|exact trivial|assumption|omega|(show (_ ≤ _ ∧ _ ≤ _); omega)|(simp; omega)|exact ⟨by first|omega|(simp; omega),_,rfl,rfl⟩) ?_|refine Quo.l (And.intro (by first|exact rfl|exact e|assumption|omega|(simp; omega)) ?_)|refine Quo.r (And.intro (by omega) ?_)|refine Both.mk ?_ ?_|refine Exists.intro _ (And.intro rfl ?_)|refine fun _=>?_))|exact rfl)
  · rename_i hil
    rw [List.take_of_length_le (by omega)]
    exact h
theorem k_impl_committee_total : Keeps' Try.prog 111 c_spec_l1Total := by
  refine keeps_of_vc mix TyT_ok cok_nil Try.func111 rfl rfl rfl ?_
  intro aargs hs Fs K h
  simp only [c_spec_l1Total] at h
  split at h
  case h_2 => exact h.elim
  rename_i c
  obtain ⟨rfl, hc, hx, h⟩ := h
  repeat' (first|((conv=>whnf); (first|refine brK_dec (fun _=>?_) (fun _=>?_)|refine brK_ndec (fun _=>?_) (fun _=>?_)|refine brK_not (fun _=>?_) (fun _=>?_)|refine brK_in (fun _=>?_) (fun _=>?_)|refine And.intro (by first|exact rfl|exact ⟨_,rfl,rfl⟩|exact ⟨rfl,rfl,rfl⟩|exact of_decide_eq_true rfl|exact trivial|assumption|omega|(show (_ ≤ _ ∧ _ ≤ _); omega)|(simp; omega)|exact ⟨by first|omega|(simp; omega),_,rfl,rfl⟩) ?_|refine Quo.l (And.intro (by first|exact rfl|assumption|omega|(simp; omega)) ?_)|refine Quo.r (And.intro (by omega) ?_)|refine Both.mk ?_ ?_|refine Exists.intro _ (And.intro rfl ?_)|refine fun _=>?_))|exact rfl)
  refine loop_in (ι := Nat) (fun i => mkS 17 [(0, .ints c), (2, I 0), (3, I (c.take i).sum), (6, .ints c), (7, I c.length), (8, I i)] [] Fs) (fun i => i ≤ c.length) (fun i => c.length - i) 0 [] (Nat.zero_le _) ?_ ?_
  · repeat' (first|((conv=>whnf); (first|refine brK_dec (fun _=>?_) (fun _=>?_)|refine brK_ndec (fun _=>?_) (fun _=>?_)|refine brK_not (fun _=>?_) (fun _=>?_)|refine brK_in (fun _=>?_) (fun _=>?_)|refine And.intro (by first|exact rfl|exact ⟨_,rfl,rfl⟩|exact ⟨rfl,rfl,rfl⟩|exact of_decide_eq_true rfl|exact trivial|assumption|omega|(show (_ ≤ _ ∧ _ ≤ _); omega)|(simp; omega)|exact ⟨by first|omega|(simp; omega),_,rfl,rfl⟩) ?_|refine Quo.l (And.intro (by first|exact rfl|assumption|omega|(simp; omega)) ?_)|refine Quo.r (And.intro (by omega) ?_)|refine Both.mk ?_ ?_|refine Exists.intro _ (And.intro rfl ?_)|refine fun _=>?_))|exact rfl)
  intro i hi
  have hw := sum_i hx i
  repeat' (first|((conv=>whnf); (first|refine brK_dec (fun _=>?_) (fun _=>?_)|refine brK_ndec (fun _=>?_) (fun _=>?_)|refine brK_not (fun _=>?_) (fun _=>?_)|refine brK_in (fun _=>?_) (fun _=>?_)|refine And.intro (by first|exact rfl|exact (rng_cell hx (by assumption) (by omega))|exact ⟨_,rfl,rfl⟩|exact ⟨rfl,rfl,rfl⟩|exact of_decide_eq_true rfl|exact trivial|assumption|omega|(show (_ ≤ _ ∧ _ ≤ _); omega)|(simp; omega)|exact ⟨by first|omega|(simp; omega),_,rfl,rfl⟩) ?_|refine Quo.l (And.intro (by first|exact rfl|exact (rng_cell hx (by assumption) (by omega))|assumption|omega|(simp; omega)) ?_)|refine Quo.r (And.intro (by omega) ?_)|refine Both.mk ?_ ?_|refine Exists.intro _ (And.intro rfl ?_)|refine fun _=>?_))|exact rfl)
  · rename_i hil x hxx
    refine ⟨i + 1, [], by omega, by omega, ?_⟩
    have e := sum_take hxx
    repeat' (first|((conv=>whnf); (first|refine brK_dec (fun _=>?_) (fun _=>?_)|refine brK_ndec (fun _=>?_) (fun _=>?_)|refine brK_not (fun _=>?_) (fun _=>?_)|refine brK_in (fun _=>?_) (fun _=>?_)|refine And.intro (by first|exact rfl|exact e|exact ⟨_,rfl,rfl⟩|exact ⟨rfl,rfl,rfl⟩|exact of_decide_eq_true rfl|exact trivial|assumption|omega|(show (_ ≤ _ ∧ _ ≤ _); omega)|(simp; omega)|exact ⟨by first|omega|(simp; omega),_,rfl,rfl⟩) ?_|refine Quo.l (And.intro (by first|exact rfl|exact e|assumption|omega|(simp; omega)) ?_)|refine Quo.r (And.intro (by omega) ?_)|refine Both.mk ?_ ?_|refine Exists.intro _ (And.intro rfl ?_)|refine fun _=>?_))|exact rfl)
  · rename_i hil
    rw [List.take_of_length_le (by omega)]
    exact h
def c_spec_l1Quorum : Con := ⟨0, 0, false, fun xs hs _ K => match xs with
  | [.ints c] => hs = [] ∧ c.length < 2000 ∧ (∀ x ∈ c, 0 ≤ x ∧ x ≤ 999) ∧ K (I (quo c)) [] []
  | _ => False⟩
theorem tdiv3 {x : Int} (h : 0 ≤ x) : (2 * x).tdiv 3 = 2 * x / 3 := Int.tdiv_eq_ediv_of_nonneg (by omega)
theorem k_spec_l1Quorum : Keeps' Try.prog 86 c_spec_l1Quorum := by
  refine keeps_of_vc mix TyT_ok (cok_cons k_spec_l1Total Try.func99 rfl rfl cok_nil) Try.func86 rfl rfl rfl ?_
  intro aargs hs Fs K h
  simp only [c_spec_l1Quorum] at h
  split at h
  case h_2 => exact h.elim
  rename_i c
  obtain ⟨rfl, hc, hx, h⟩ := h
  have hb := sum_bound c hx
  repeat' (first|((conv=>whnf); (first|refine brK_dec (fun _=>?_) (fun _=>?_)|refine brK_ndec (fun _=>?_) (fun _=>?_)|refine brK_not (fun _=>?_) (fun _=>?_)|refine brK_in (fun _=>?_) (fun _=>?_)|refine And.intro (by first|exact rfl|exact ⟨_,rfl,rfl⟩|exact ⟨rfl,rfl,rfl⟩|exact of_decide_eq_true rfl|exact trivial|assumption|omega|(show (_ ≤ _ ∧ _ ≤ _); omega)|(simp; omega)|exact ⟨by first|omega|(simp; omega),_,rfl,rfl⟩) ?_|refine Quo.l (And.intro (by first|exact rfl|assumption|omega|(simp; omega)) ?_)|refine Quo.r (And.intro (by omega) ?_)|refine Both.mk ?_ ?_|refine Exists.intro _ (And.intro rfl ?_)|refine fun _=>?_))|exact rfl)
  exact h
theorem k_impl_committee_quorum : Keeps' Try.prog 97 c_spec_l1Quorum := by
  refine keeps_of_vc mix TyT_ok (cok_cons k_impl_committee_total Try.func111 rfl rfl cok_nil) Try.func97 rfl rfl rfl ?_
  intro aargs hs Fs K h
  simp only [c_spec_l1Quorum] at h
  split at h
  case h_2 => exact h.elim
  rename_i c
  obtain ⟨rfl, hc, hx, h⟩ := h
  have hb := sum_bound c hx
  repeat' (first|((conv=>whnf); (first|refine brK_dec (fun _=>?_) (fun _=>?_)|refine brK_ndec (fun _=>?_) (fun _=>?_)|refine brK_not (fun _=>?_) (fun _=>?_)|refine brK_in (fun _=>?_) (fun _=>?_)|refine And.intro (by first|exact rfl|exact ⟨_,rfl,rfl⟩|exact ⟨rfl,rfl,rfl⟩|exact of_decide_eq_true rfl|exact trivial|assumption|omega|(show (_ ≤ _ ∧ _ ≤ _); omega)|(simp; omega)|exact ⟨by first|omega|(simp; omega),_,rfl,rfl⟩) ?_|refine Quo.l (And.intro (by first|exact rfl|assumption|omega|(simp; omega)) ?_)|refine Quo.r (And.intro (by omega) ?_)|refine Both.mk ?_ ?_|refine Exists.intro _ (And.intro rfl ?_)|refine fun _=>?_))|exact rfl)
  exact h
def c_impl_committee_faults : Con := ⟨0, 0, false, fun xs hs _ K => match xs with
  | [.ints c] => hs = [] ∧ c.length < 2000 ∧ (∀ x ∈ c, 0 ≤ x ∧ x ≤ 999) ∧ 1 ≤ c.sum ∧ K (I ((c.sum - 1) / 3)) [] []
  | _ => False⟩
def c_impl_CommitteeQuorum : Con := ⟨0, 0, false, fun xs hs _ K => match xs with
  | [.ints c] => hs = [] ∧ c.length < 2000000 ∧ K (I (if comV c = true then quo c else -1)) [] []
  | _ => False⟩
theorem k_impl_CommitteeQuorum : Keeps' Try.prog 80 c_impl_CommitteeQuorum := by
  refine keeps_of_vc mix TyT_ok (cok_cons k_impl_committee_valid Try.func94 rfl rfl (cok_cons k_impl_committee_quorum Try.func97 rfl rfl cok_nil)) Try.func80 rfl rfl rfl ?_
  intro aargs hs Fs K h
  simp only [c_impl_CommitteeQuorum] at h
  split at h
  case h_2 => exact h.elim
  rename_i c
  obtain ⟨rfl, hc, h⟩ := h
  cases hv : comV c
  · rw [hv, if_neg (by simp)] at h
    repeat' (first|((conv=>whnf); (first|refine brK_dec (fun _=>?_) (fun _=>?_)|refine brK_ndec (fun _=>?_) (fun _=>?_)|refine brK_not (fun _=>?_) (fun _=>?_)|refine brK_in (fun _=>?_) (fun _=>?_)|refine And.intro (by first|exact rfl|exact ⟨_,rfl,rfl⟩|exact ⟨rfl,rfl,rfl⟩|exact of_decide_eq_true rfl|exact trivial|assumption|omega|(show (_ ≤ _ ∧ _ ≤ _); omega)|(simp; omega)|exact ⟨by first|omega|(simp; omega),_,rfl,rfl⟩) ?_|refine Quo.l (And.intro (by first|exact rfl|assumption|omega|(simp; omega)) ?_)|refine Quo.r (And.intro (by omega) ?_)|refine Both.mk ?_ ?_|refine Exists.intro _ (And.intro rfl ?_)|refine fun _=>?_))|exact rfl)
    all_goals first
      | exact h
      | (exfalso; simp_all; done)
  · obtain ⟨l1, l2, l3⟩ := com_out hv
    rw [hv, if_pos rfl] at h
    repeat' (first|((conv=>whnf); (first|refine brK_dec (fun _=>?_) (fun _=>?_)|refine brK_ndec (fun _=>?_) (fun _=>?_)|refine brK_not (fun _=>?_) (fun _=>?_)|refine brK_in (fun _=>?_) (fun _=>?_)|refine And.intro (by first|exact rfl|exact ⟨_,rfl,rfl⟩|exact ⟨rfl,rfl,rfl⟩|exact of_decide_eq_true rfl|exact trivial|assumption|omega|(show (_ ≤ _ ∧ _ ≤ _); omega)|(simp; omega)|exact ⟨by first|omega|(simp; omega),_,rfl,rfl⟩) ?_|refine Quo.l (And.intro (by first|exact rfl|assumption|omega|(simp; omega)) ?_)|refine Quo.r (And.intro (by omega) ?_)|refine Both.mk ?_ ?_|refine Exists.intro _ (And.intro rfl ?_)|refine fun _=>?_))|exact rfl)
    all_goals first
      | exact h
      | (exfalso; simp_all; done)
def c_impl_MembersValid : Con := ⟨0, 0, false, fun xs hs _ K => match xs with
  | [.ints c, .ints s] => hs = [] ∧ c.length < 2000000 ∧ s.length < 2000000 ∧ K (B (comV c && memV c s)) [] []
  | _ => False⟩
theorem k_impl_MembersValid : Keeps' Try.prog 77 c_impl_MembersValid := by
  refine keeps_of_vc mix TyT_ok (cok_cons k_impl_committee_valid Try.func94 rfl rfl (cok_cons k_impl_committee_holds Try.func95 rfl rfl cok_nil)) Try.func77 rfl rfl rfl ?_
  intro aargs hs Fs K h
  simp only [c_impl_MembersValid] at h
  split at h
  case h_2 => exact h.elim
  rename_i c s
  obtain ⟨rfl, hc, hs, h⟩ := h
  have no : ∀ {b : Bool}, (comV c && memV c s) = b → K (B b) [] [] := fun e => by rw [← e]; exact h
  repeat' (first|((conv=>whnf); (first|refine brK_dec (fun _=>?_) (fun _=>?_)|refine brK_ndec (fun _=>?_) (fun _=>?_)|refine brK_not (fun _=>?_) (fun _=>?_)|refine brK_in (fun _=>?_) (fun _=>?_)|refine And.intro (by first|exact rfl|exact ⟨_,rfl,rfl⟩|exact ⟨rfl,rfl,rfl⟩|exact of_decide_eq_true rfl|exact trivial|assumption|omega|(show (_ ≤ _ ∧ _ ≤ _); omega)|(simp; omega)|exact ⟨by first|omega|(simp; omega),_,rfl,rfl⟩) ?_|refine Quo.l (And.intro (by first|exact rfl|assumption|omega|(simp; omega)) ?_)|refine Quo.r (And.intro (by omega) ?_)|refine Both.mk ?_ ?_|refine Exists.intro _ (And.intro rfl ?_)|refine fun _=>?_))|exact rfl)
  all_goals exact no (by simp_all)
def c_impl_MembersWeight : Con := ⟨0, 0, false, fun xs hs _ K => match xs with
  | [.ints c, .ints s] => hs = [] ∧ c.length < 2000000 ∧ s.length < 2000000 ∧ K (I (if (comV c && memV c s) = true then wgt c s else -1)) [] []
  | _ => False⟩
theorem k_impl_MembersWeight : Keeps' Try.prog 79 c_impl_MembersWeight := by
  refine keeps_of_vc mix TyT_ok (cok_cons k_impl_MembersValid Try.func77 rfl rfl (cok_cons k_impl_committee_weigh Try.func96 rfl rfl cok_nil)) Try.func79 rfl rfl rfl ?_
  intro aargs hs Fs K h
  simp only [c_impl_MembersWeight] at h
  split at h
  case h_2 => exact h.elim
  rename_i c s
  obtain ⟨rfl, hc, hs, h⟩ := h
  cases hv : (comV c && memV c s)
  · rw [hv, if_neg (by simp)] at h
    repeat' (first|((conv=>whnf); (first|refine brK_dec (fun _=>?_) (fun _=>?_)|refine brK_ndec (fun _=>?_) (fun _=>?_)|refine brK_not (fun _=>?_) (fun _=>?_)|refine brK_in (fun _=>?_) (fun _=>?_)|refine And.intro (by first|exact rfl|exact ⟨_,rfl,rfl⟩|exact ⟨rfl,rfl,rfl⟩|exact of_decide_eq_true rfl|exact trivial|assumption|omega|(show (_ ≤ _ ∧ _ ≤ _); omega)|(simp; omega)|exact ⟨by first|omega|(simp; omega),_,rfl,rfl⟩) ?_|refine Quo.l (And.intro (by first|exact rfl|assumption|omega|(simp; omega)) ?_)|refine Quo.r (And.intro (by omega) ?_)|refine Both.mk ?_ ?_|refine Exists.intro _ (And.intro rfl ?_)|refine fun _=>?_))|exact rfl)
    all_goals first
      | exact h
      | (exfalso; simp_all; done)
  · have hv2 := hv
    rw [Bool.and_eq_true] at hv2
    obtain ⟨l1, l2, l3⟩ := com_out hv2.1
    have hm := hv2.2
    rw [hv, if_pos rfl] at h
    repeat' (first|((conv=>whnf); (first|refine brK_dec (fun _=>?_) (fun _=>?_)|refine brK_ndec (fun _=>?_) (fun _=>?_)|refine brK_not (fun _=>?_) (fun _=>?_)|refine brK_in (fun _=>?_) (fun _=>?_)|refine And.intro (by first|exact rfl|exact ⟨_,rfl,rfl⟩|exact ⟨rfl,rfl,rfl⟩|exact of_decide_eq_true rfl|exact trivial|assumption|omega|(show (_ ≤ _ ∧ _ ≤ _); omega)|(simp; omega)|exact ⟨by first|omega|(simp; omega),_,rfl,rfl⟩) ?_|refine Quo.l (And.intro (by first|exact rfl|assumption|omega|(simp; omega)) ?_)|refine Quo.r (And.intro (by omega) ?_)|refine Both.mk ?_ ?_|refine Exists.intro _ (And.intro rfl ?_)|refine fun _=>?_))|exact rfl)
    all_goals first
      | exact h
      | (exfalso; simp_all; done)
end Go.Proofs.Ytalbgcpfekmfoaa
