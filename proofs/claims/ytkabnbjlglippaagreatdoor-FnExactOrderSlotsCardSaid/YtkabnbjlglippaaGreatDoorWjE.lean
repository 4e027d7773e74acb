/-
A wave's leader, votes, direct waves, by the program.
No conditions.
-/
import Derived.Test.YtkabnbjlglippaaGreatDoorWjB
import Derived.Test.YtkabnbjlglippaaGreatDoorWjD
namespace Go.Proofs.YtkabnbjlglippaaGreatDoor
open Go Go.Vc
set_option maxHeartbeats 4000000
set_option maxRecDepth 10000
theorem pin_more : ∀ {Fs nF : List Fam} {g : Nat} {cs : List AV}, pinOf Fs g = some cs → pinOf (Fs ++ nF) g = some cs
  | [], _, _, _, h => by cases h
  | ⟨none, o⟩ :: r, nF, g, cs, h => by
    have h : pinOf r g = some cs := h
    exact pin_more (Fs := r) (nF := nF) h
  | ⟨some p, o⟩ :: r, nF, g, cs, h => by
    unfold pinOf at h
    show pinOf (⟨some p, o⟩ :: (r ++ nF)) g = some cs
    unfold pinOf
    split at h
    · rename_i e
      rw [if_pos e]
      exact h
    · rename_i e
      rw [if_neg e]
      exact pin_more (Fs := r) h
/-- No more families: the call adds none. -/
theorem appK_nil {l : List Fam} {k : List Fam → Prop} (h : k l) : appK l [] k := appK_in (by rw [List.append_nil]; exact h)
abbrev errA (p : Addr) : AV := .iface 158 (.val (.pointer (some p)))
/-- The program's three error variables. -/
structure hasErr (Fs : List Fam) (p0 p1 p2 : Addr) : Prop where
  e0 : pinOf Fs 0 = some [errA p0]
  e1 : pinOf Fs 1 = some [errA p1]
  e2 : pinOf Fs 2 = some [errA p2]
theorem err_app {Fs nF : List Fam} {p0 p1 p2 : Addr} (h : hasErr Fs p0 p1 p2) : hasErr (Fs ++ nF) p0 p1 p2 := ⟨pin_more h.e0, pin_more h.e1, pin_more h.e2⟩
theorem gV_gin {c : List Int} {g : List VxD} (h : gV c g = true) : gin c g := fun v hv => by
  obtain ⟨i, hi⟩ := List.mem_iff_getElem?.1 hv
  have := (gV_cell h hi).1
  unfold vxV at this
  exact ⟨and1 this, and1 (and2 this)⟩
theorem lead_find {g : List VxD} {L : List Int} {n : Nat} {x : Int} (h0 : 1 ≤ n) (hx : L[n - 1]? = some x) : leadV g L n = findV g (2 * n - 1) x := by
  unfold leadV
  rw [if_neg (by omega), hx]
def c_waves_leader : Con := ⟨0, 0, true, fun xs hs Fs K => match xs with
  | [.agg [.ro (.ints c :: .sl 1 _ :: pl), .ints L], .val (.int .i64 w)] => hs = [] ∧ ∃ b g p0 p1 p2, pl = plcs b g ∧ gV c g = true ∧ hasErr Fs p0 p1 p2 ∧ L.length ≤ 15 ∧ ∃ n : Nat, w = n ∧ 1 ≤ n ∧ n ≤ L.length ∧
      Both (leadV g L n = none → K (.tup [nilP, errA p2]) [] []) (∀ i, leadV g L n = some i → K (.tup [.rp (b + i) 0 0, .val .nilIface]) [] [])
  | _ => False⟩
theorem k_impl_waves_leader : Keeps' Tryz.prog 79 c_waves_leader := by
  refine keeps_of_vc mix TyT_ok (cok_cons k_impl_graph_at Tryz.func60 rfl rfl cok_nil) Tryz.func79 rfl rfl rfl ?_
  intro aargs hs Fs K h
  simp only [c_waves_leader] at h
  split at h
  case h_2 => exact h.elim
  rename_i c rows pl L w
  obtain ⟨rfl, b, g, p0, p1, p2, rfl, hv, hE, hL, n, rfl, n0, n1, h1, h2⟩ := h
  have hE2 : hasErr (Fs ++ ([] : List Fam)) p0 p1 p2 := err_app hE
  have hc := gV_comV hv
  have hgi := gV_gin hv
  repeat' (first|((conv=>whnf); (first|refine brK_dec (fun _=>?_) (fun _=>?_)|refine brK_ndec (fun _=>?_) (fun _=>?_)|refine brK_not (fun _=>?_) (fun _=>?_)|refine brK_in (fun _=>?_) (fun _=>?_)|refine And.intro (by first|exact rfl|exact ⟨_,rfl,rfl⟩|exact ⟨rfl,rfl,rfl⟩|exact of_decide_eq_true rfl|exact trivial|assumption|omega|(show (_ ≤ _ ∧ _ ≤ _); omega)|(simp; omega)|exact ⟨by first|omega|(simp; omega),_,rfl,rfl⟩) ?_|refine Quo.l (And.intro (by first|exact rfl|assumption|omega|(simp; omega)) ?_)|refine Quo.r (And.intro (by omega) ?_)|refine Both.mk ?_ ?_|refine Exists.intro _ (And.intro rfl ?_)|refine opt_use (by assumption) ?_|refine Exists.intro _ (And.intro hE2.e0 ?_)|refine Exists.intro _ (And.intro hE2.e1 ?_)|refine Exists.intro _ (And.intro hE2.e2 ?_)|refine fun _=>?_))|exact rfl)
  · omega
  · omega
  have e0 : ((n : Int) - 1).toNat = n - 1 := by omega
  have e1 : (2 * (n : Int) - 1) = ((2 * n - 1 : Nat) : Int) := by omega
  repeat' (first|((conv=>whnf); (first|refine draw_plan (id := 2) [] [] (.take 0 (.take 1 (.take 2 .done))) (by kernel_rfl) (by kernel_rfl) ?_|refine draw_plan (id := 3) [] [] (.take 0 (.take 1 (.take 2 (.take 3 (.take 4 (.take 5 (.take 6 (.take 7 (.take 8 (.take 9 (.take 10 (.run 11 (.take 12 .done))))))))))))) (by kernel_rfl) (by kernel_rfl) ?_|refine draw_plan (id := 5) [] [] (.take 0 (.take 1 (.take 2 .done))) (by kernel_rfl) (by kernel_rfl) ?_|refine Exists.intro b (Exists.intro g (And.intro rfl (And.intro hgi ?_)))|refine brK_dec (fun _=>?_) (fun _=>?_)|refine brK_ndec (fun _=>?_) (fun _=>?_)|refine brK_not (fun _=>?_) (fun _=>?_)|refine brK_in (fun _=>?_) (fun _=>?_)|refine And.intro (by first|exact rfl|exact (by first|omega|(show (_ ≤ _ ∧ _ ≤ _); omega)|(simp; omega))|exact ⟨_,rfl,rfl⟩|exact ⟨rfl,rfl,rfl⟩|exact of_decide_eq_true rfl|exact trivial|assumption|omega|(show (_ ≤ _ ∧ _ ≤ _); omega)|(simp; omega)|exact ⟨by first|omega|(simp; omega),_,rfl,rfl⟩) ?_|refine Quo.l (And.intro (by first|exact rfl|exact (by first|omega|(show (_ ≤ _ ∧ _ ≤ _); omega)|(simp; omega))|assumption|omega|(simp; omega)) ?_)|refine Quo.r (And.intro (by omega) ?_)|refine Both.mk ?_ ?_|refine Exists.intro _ (And.intro rfl ?_)|refine opt_use (by assumption) ?_|refine Exists.intro _ (And.intro hE2.e0 ?_)|refine Exists.intro _ (And.intro hE2.e1 ?_)|refine Exists.intro _ (And.intro hE2.e2 ?_)|refine fun _=>?_))|exact rfl)
  · rename_i x hx hf
    rw [e0] at hx
    rw [← lead_find n0 hx] at hf
    exact h1 hf
  · rename_i x hx i hf
    rw [e0] at hx
    rw [← lead_find n0 hx] at hf
    exact h2 i hf
def c_waves_votes : Con := ⟨0, 0, true, fun xs hs Fs K => match xs with
  | [.agg [.ro (.ints c :: .sl 1 _ :: pl), .ints L], .val (.int .i64 w)] => hs = [] ∧ ∃ b g p0 p1 p2, pl = plcs b g ∧ gV c g = true ∧ g.length < 2000000 ∧ (∀ v ∈ g, v.p.length < 2000000) ∧ hasG Fs b g ∧ hasErr Fs p0 p1 p2 ∧ L.length ≤ 15 ∧ ∃ n : Nat, w = n ∧ 1 ≤ n ∧ n ≤ L.length ∧
      Both (hasV g L n = false → K (.tup [I 0, errA p2]) [] []) (hasV g L n = true → K (.tup [I (wsum c (votersV g (2 * n) (L.getD (n - 1) 0))), .val .nilIface]) [] [])
  | _ => False⟩
theorem wsum_rng {c : List Int} {S : Nat → Bool} (hc : ∀ x ∈ c, 0 ≤ x) : ∀ n, 0 ≤ wsum (c.take n) S ∧ wsum (c.take n) S ≤ c.sum := by
  intro n
  induction n generalizing c S with
  | zero => 
    have : 0 ≤ c.sum := by
      clear S
      induction c with
      | nil => simp
      | cons x c ih =>
        have h0 := hc x (by simp)
        have h1 := ih fun y hy => hc y (by simp [hy])
        simp
        omega
    simpa [wsum] using this
  | succ n ih =>
    cases c with
    | nil => simp [wsum]
    | cons x c =>
      have h0 := hc x (by simp)
      have h1 := ih (c := c) (S := fun i => S (i + 1)) fun y hy => hc y (by simp [hy])
      simp only [List.take_succ_cons, wsum, List.sum_cons]
      split <;> omega
theorem voters_none {g : List VxD} {r l : Int} {i : Nat} (h : findV g r i = none) : votersV g r l i = false := by
  unfold votersV
  rw [h]
/-- The leader's vertex is among the parents of a vertex of the next round: the leader is. -/
theorem par_lead {g : List VxD} {i j : Nat} {v : VxD} {l : Int} (hv : g[i]? = some v) (hj : findV g (v.r - 1) l = some j) : j ∈ parI g i ↔ l ∈ v.p := by
  refine ⟨fun h => ?_, fun h => par_mem hv h hj⟩
  unfold parI at h
  rw [hv] at h
  obtain ⟨x, hx, hf⟩ := List.mem_filterMap.1 h
  obtain ⟨u, hu, _, e1⟩ := find_out hf
  obtain ⟨u', hu', _, e2⟩ := find_out hj
  rw [hu] at hu'
  cases hu'
  rw [← e2, e1]
  exact hx
theorem voters_some {g : List VxD} {n i j k : Nat} {l : Int} {v : VxD} (h : findV g (2 * (n : Int)) i = some j) (hv : g[j]? = some v) (hk : findV g (2 * (n : Int) - 1) l = some k) : votersV g (2 * n) l i = decide (k ∈ parI g j) := by
  have hr : v.r = 2 * n := by
    obtain ⟨u, hu, e, _⟩ := find_out h
    rw [hv] at hu
    cases hu
    exact e
  unfold votersV
  rw [h]
  dsimp only
  rw [hv]
  dsimp only
  rw [decide_eq_decide]
  exact (par_lead hv (by rw [hr]; exact hk)).symm
theorem k_impl_waves_votes : Keeps' Tryz.prog 108 c_waves_votes := by
  refine keeps_of_vc mix TyT_ok (cok_cons k_impl_waves_leader Tryz.func79 rfl rfl (cok_cons k_impl_graph_at Tryz.func60 rfl rfl (cok_cons k_slices_Contains_node Tryz.func119 rfl rfl cok_nil))) Tryz.func108 rfl rfl rfl ?_
  intro aargs hs Fs K h
  simp only [c_waves_votes] at h
  split at h
  case h_2 => exact h.elim
  rename_i c rows pl L w
  obtain ⟨rfl, b, g, p0, p1, p2, rfl, hv, hg, hp, hG, hE, hL, n, rfl, n0, n1, h1, h2⟩ := h
  have hG2 : hasG (Fs ++ ([] : List Fam)) b g := hasG_app hG
  have hE2 : hasErr (Fs ++ ([] : List Fam)) p0 p1 p2 := err_app hE
  have hc := gV_comV hv
  have hgi := gV_gin hv
  obtain ⟨hc1, hc2, hcx⟩ := com_out hc
  have hcs := sum_bound c (com_out hc).2.2
  repeat' (first|((conv=>whnf); (first|refine Exists.intro b (Exists.intro g (Exists.intro p0 (Exists.intro p1 (Exists.intro p2 (And.intro rfl (And.intro hv (And.intro hE2 (And.intro hL (Exists.intro n (And.intro rfl (And.intro n0 (And.intro n1 ?_))))))))))))|refine brK_dec (fun _=>?_) (fun _=>?_)|refine brK_ndec (fun _=>?_) (fun _=>?_)|refine brK_not (fun _=>?_) (fun _=>?_)|refine brK_in (fun _=>?_) (fun _=>?_)|refine And.intro (by first|exact rfl|exact ⟨_,rfl,rfl⟩|exact ⟨rfl,rfl,rfl⟩|exact of_decide_eq_true rfl|exact trivial|assumption|omega|(show (_ ≤ _ ∧ _ ≤ _); omega)|(simp; omega)|exact ⟨by first|omega|(simp; omega),_,rfl,rfl⟩) ?_|refine Quo.l (And.intro (by first|exact rfl|assumption|omega|(simp; omega)) ?_)|refine Quo.r (And.intro (by omega) ?_)|refine Both.mk ?_ ?_|refine Exists.intro _ (And.intro rfl ?_)|refine opt_use (by assumption) ?_|refine fun _=>?_))|exact rfl)
  · rename_i hld
    exact h1 (by rw [hasV, hld]; rfl)
  rename_i k hk
  have hh : hasV g L n = true := by rw [hasV, hk]; rfl
  have h2 := h2 hh
  obtain ⟨_, hlx, hkf⟩ := lead_out hk
  have hkl : k < g.length := by
    obtain ⟨u, hu, _⟩ := find_out hkf
    exact (List.getElem?_eq_some_iff.1 hu).1
  generalize L.getD (n - 1) 0 = l at h2 hlx hkf
  refine loop_in (ι := Nat) (fun i => mkS 53 [(0, .agg [.ro (.ints c :: .sl 1 rows :: plcs b g), .ints L]), (1, I n), (2, .ptr 0 0), (6, .rp (b + k) 0 0), (7, .val .nilIface), (8, I (wsum (c.take i) (votersV g (2 * n) l))), (25, .ints c), (26, I c.length), (27, I i)] [.cells [.ro (.ints c :: .sl 1 rows :: plcs b g), .ints L]] Fs)
    (fun i => i ≤ c.length) (fun i => c.length - i) 0 [0] (Nat.zero_le _) ?_ ?_
  · repeat' (first|((conv=>whnf); (first|refine Exists.intro b (Exists.intro g (Exists.intro p0 (Exists.intro p1 (Exists.intro p2 (And.intro rfl (And.intro hv (And.intro hE2 (And.intro hL (Exists.intro n (And.intro rfl (And.intro n0 (And.intro n1 ?_))))))))))))|refine brK_dec (fun _=>?_) (fun _=>?_)|refine brK_ndec (fun _=>?_) (fun _=>?_)|refine brK_not (fun _=>?_) (fun _=>?_)|refine brK_in (fun _=>?_) (fun _=>?_)|refine And.intro (by first|exact rfl|exact (by simp [wsum])|exact ⟨_,rfl,rfl⟩|exact ⟨rfl,rfl,rfl⟩|exact of_decide_eq_true rfl|exact trivial|assumption|omega|(show (_ ≤ _ ∧ _ ≤ _); omega)|(simp; omega)|exact ⟨by first|omega|(simp; omega),_,rfl,rfl⟩) ?_|refine Quo.l (And.intro (by first|exact rfl|exact (by simp [wsum])|assumption|omega|(simp; omega)) ?_)|refine Quo.r (And.intro (by omega) ?_)|refine Both.mk ?_ ?_|refine Exists.intro _ (And.intro rfl ?_)|refine opt_use (by assumption) ?_|refine fun _=>?_))|exact rfl)
  intro i hi
  have hw := wsum_rng (c := c) (S := votersV g (2 * n) l) (fun x hx => (hcx x hx).1) i
  repeat' (first|((conv=>whnf); (first|refine Exists.intro b (Exists.intro g (And.intro rfl (And.intro hgi ?_)))|refine brK_dec (fun _=>?_) (fun _=>?_)|refine brK_ndec (fun _=>?_) (fun _=>?_)|refine brK_not (fun _=>?_) (fun _=>?_)|refine brK_in (fun _=>?_) (fun _=>?_)|refine And.intro (by first|exact rfl|exact ⟨_,rfl,rfl⟩|exact ⟨rfl,rfl,rfl⟩|exact of_decide_eq_true rfl|exact trivial|assumption|omega|(show (_ ≤ _ ∧ _ ≤ _); omega)|(simp; omega)|exact ⟨by first|omega|(simp; omega),_,rfl,rfl⟩) ?_|refine Quo.l (And.intro (by first|exact rfl|assumption|omega|(simp; omega)) ?_)|refine Quo.r (And.intro (by omega) ?_)|refine Both.mk ?_ ?_|refine Exists.intro _ (And.intro rfl ?_)|refine opt_use (by assumption) ?_|refine fun _=>?_))|exact rfl)
  · rename_i h0 x hx hf
    have hx : c[i]? = some x := hx
    have e := wsum_take (S := votersV g (2 * n) l) hx
    rw [voters_none hf] at e
    refine ⟨i + 1, [0], by omega, by omega, ?_⟩
    repeat' (first|((conv=>whnf); (first|refine Exists.intro b (Exists.intro g (And.intro rfl (And.intro hgi ?_)))|refine brK_dec (fun _=>?_) (fun _=>?_)|refine brK_ndec (fun _=>?_) (fun _=>?_)|refine brK_not (fun _=>?_) (fun _=>?_)|refine brK_in (fun _=>?_) (fun _=>?_)|refine And.intro (by first|exact rfl|exact (by rw [e]; simp)|exact ⟨_,rfl,rfl⟩|exact ⟨rfl,rfl,rfl⟩|exact of_decide_eq_true rfl|exact trivial|assumption|omega|(show (_ ≤ _ ∧ _ ≤ _); omega)|(simp; omega)|exact ⟨by first|omega|(simp; omega),_,rfl,rfl⟩) ?_|refine Quo.l (And.intro (by first|exact rfl|exact (by rw [e]; simp)|assumption|omega|(simp; omega)) ?_)|refine Quo.r (And.intro (by omega) ?_)|refine Both.mk ?_ ?_|refine Exists.intro _ (And.intro rfl ?_)|refine opt_use (by assumption) ?_|refine fun _=>?_))|exact rfl)
  · rename_i h0 x hx j hf
    have hx : c[i]? = some x := hx
    have e := wsum_take (S := votersV g (2 * n) l) hx
    obtain ⟨v, hv1, _⟩ := find_out hf
    have hjl := (List.getElem?_eq_some_iff.1 hv1).1
    rw [voters_some hf hv1 hkf] at e
    have hpl := parI_len hv1
    have hpv := hp v (List.mem_of_getElem? hv1)
    have hx2 := hcx x (List.mem_of_getElem? hx)
    repeat' (first|((conv=>whnf); (first|refine Exists.intro _ (And.intro (at_own (hG2 _ _ hv1)) ?_)|refine Exists.intro b (Exists.intro g (Exists.intro (parI g j) (Exists.intro k (And.intro rfl (And.intro rfl (And.intro hG2 (And.intro par_bound (And.intro hkl (And.intro (by omega) ?_)))))))))|refine brK_dec (fun _=>?_) (fun _=>?_)|refine brK_ndec (fun _=>?_) (fun _=>?_)|refine brK_not (fun _=>?_) (fun _=>?_)|refine brK_in (fun _=>?_) (fun _=>?_)|refine And.intro (by first|exact rfl|exact ⟨_,rfl,rfl⟩|exact ⟨rfl,rfl,rfl⟩|exact of_decide_eq_true rfl|exact trivial|assumption|omega|(show (_ ≤ _ ∧ _ ≤ _); omega)|(simp; omega)|exact ⟨by first|omega|(simp; omega),_,rfl,rfl⟩) ?_|refine Quo.l (And.intro (by first|exact rfl|assumption|omega|(simp; omega)) ?_)|refine Quo.r (And.intro (by omega) ?_)|refine Both.mk ?_ ?_|refine Exists.intro _ (And.intro rfl ?_)|refine opt_use (by assumption) ?_|refine fun _=>?_))|exact rfl)
    · rename_i hm
      rw [if_pos (decide_eq_true hm)] at e
      refine ⟨i + 1, [0], by omega, by omega, ?_⟩
      repeat' (first|((conv=>whnf); (first|refine Exists.intro _ (And.intro (at_own (hG2 _ _ hv1)) ?_)|refine Exists.intro b (Exists.intro g (Exists.intro (parI g j) (Exists.intro k (And.intro rfl (And.intro rfl (And.intro hG2 (And.intro par_bound (And.intro hkl (And.intro (by omega) ?_)))))))))|refine brK_dec (fun _=>?_) (fun _=>?_)|refine brK_ndec (fun _=>?_) (fun _=>?_)|refine brK_not (fun _=>?_) (fun _=>?_)|refine brK_in (fun _=>?_) (fun _=>?_)|refine And.intro (by first|exact rfl|exact (by rw [e])|exact ⟨_,rfl,rfl⟩|exact ⟨rfl,rfl,rfl⟩|exact of_decide_eq_true rfl|exact trivial|assumption|omega|(show (_ ≤ _ ∧ _ ≤ _); omega)|(simp; omega)|exact ⟨by first|omega|(simp; omega),_,rfl,rfl⟩) ?_|refine Quo.l (And.intro (by first|exact rfl|exact (by rw [e])|assumption|omega|(simp; omega)) ?_)|refine Quo.r (And.intro (by omega) ?_)|refine Both.mk ?_ ?_|refine Exists.intro _ (And.intro rfl ?_)|refine opt_use (by assumption) ?_|refine fun _=>?_))|exact rfl)
    · rename_i hm
      rw [if_neg (by rw [decide_eq_false hm]; simp)] at e
      refine ⟨i + 1, [0], by omega, by omega, ?_⟩
      repeat' (first|((conv=>whnf); (first|refine Exists.intro _ (And.intro (at_own (hG2 _ _ hv1)) ?_)|refine Exists.intro b (Exists.intro g (Exists.intro (parI g j) (Exists.intro k (And.intro rfl (And.intro rfl (And.intro hG2 (And.intro par_bound (And.intro hkl (And.intro (by omega) ?_)))))))))|refine brK_dec (fun _=>?_) (fun _=>?_)|refine brK_ndec (fun _=>?_) (fun _=>?_)|refine brK_not (fun _=>?_) (fun _=>?_)|refine brK_in (fun _=>?_) (fun _=>?_)|refine And.intro (by first|exact rfl|exact (by rw [e]; simp)|exact ⟨_,rfl,rfl⟩|exact ⟨rfl,rfl,rfl⟩|exact of_decide_eq_true rfl|exact trivial|assumption|omega|(show (_ ≤ _ ∧ _ ≤ _); omega)|(simp; omega)|exact ⟨by first|omega|(simp; omega),_,rfl,rfl⟩) ?_|refine Quo.l (And.intro (by first|exact rfl|exact (by rw [e]; simp)|assumption|omega|(simp; omega)) ?_)|refine Quo.r (And.intro (by omega) ?_)|refine Both.mk ?_ ?_|refine Exists.intro _ (And.intro rfl ?_)|refine opt_use (by assumption) ?_|refine fun _=>?_))|exact rfl)
  · rename_i h0
    have hi2 : i = c.length := by omega
    subst hi2
    rw [List.take_length]
    exact h2
def c_waves_direct : Con := ⟨0, 0, false, fun xs hs Fs K => match xs with
  | [.agg [.ro (.ints c :: .sl 1 _ :: pl), .ints L], .val (.int .i64 w)] => hs = [] ∧ ∃ b g p0 p1 p2, pl = plcs b g ∧ gV c g = true ∧ g.length < 2000000 ∧ (∀ v ∈ g, v.p.length < 2000000) ∧ hasG Fs b g ∧ hasErr Fs p0 p1 p2 ∧ L.length ≤ 15 ∧ ∃ n : Nat, w = n ∧ 1 ≤ n ∧ n ≤ L.length ∧ K (B (dirV c g L n)) [] []
  | _ => False⟩
theorem k_impl_waves_direct : Keeps' Tryz.prog 84 c_waves_direct := by
  refine keeps_of_vc mix TyT_ok (cok_cons k_impl_waves_votes Tryz.func108 rfl rfl (cok_cons k_impl_committee_support Tryz.func109 rfl rfl cok_nil)) Tryz.func84 rfl rfl rfl ?_
  intro aargs hs Fs K h
  simp only [c_waves_direct] at h
  split at h
  case h_2 => exact h.elim
  rename_i c rows pl L w
  obtain ⟨rfl, b, g, p0, p1, p2, rfl, hv, hg, hp, hG, hE, hL, n, rfl, n0, n1, h⟩ := h
  have hG2 : hasG (Fs ++ ([] : List Fam)) b g := hasG_app hG
  have hE2 : hasErr (Fs ++ ([] : List Fam)) p0 p1 p2 := err_app hE
  have hc := gV_comV hv
  have no : ∀ {z : Bool}, dirV c g L n = z → K (B z) [] [] := fun e => by rw [← e]; exact h
  repeat' (first|((conv=>whnf); (first|refine Exists.intro b (Exists.intro g (Exists.intro p0 (Exists.intro p1 (Exists.intro p2 (And.intro rfl (And.intro hv (And.intro hg (And.intro hp (And.intro hG2 (And.intro hE2 (And.intro hL (Exists.intro n (And.intro rfl (And.intro n0 (And.intro n1 ?_)))))))))))))))|refine brK_dec (fun _=>?_) (fun _=>?_)|refine brK_ndec (fun _=>?_) (fun _=>?_)|refine brK_not (fun _=>?_) (fun _=>?_)|refine brK_in (fun _=>?_) (fun _=>?_)|refine And.intro (by first|exact rfl|exact ⟨_,rfl,rfl⟩|exact ⟨rfl,rfl,rfl⟩|exact of_decide_eq_true rfl|exact trivial|assumption|omega|(show (_ ≤ _ ∧ _ ≤ _); omega)|(simp; omega)|exact ⟨by first|omega|(simp; omega),_,rfl,rfl⟩) ?_|refine Quo.l (And.intro (by first|exact rfl|assumption|omega|(simp; omega)) ?_)|refine Quo.r (And.intro (by omega) ?_)|refine Both.mk ?_ ?_|refine Exists.intro _ (And.intro rfl ?_)|refine opt_use (by assumption) ?_|refine fun _=>?_))|exact rfl)
  · rename_i hh
    refine no ?_
    rw [dirV, hh]
    rfl
  · rename_i hh
    refine no ?_
    rw [dirV, hh]
    rfl
noncomputable def c_impl_newWaves : Con := ⟨2, 0, true, fun xs hs Fs K => match xs with
  | [.ints c, .sl 4 rows, .ints L] => hs = [] ∧ ∃ g : List VxD, rows = g.map VxD.row ∧ ∃ p0 p1 p2, hasErr Fs p0 p1 p2 ∧ c.length < 2000000 ∧ g.length < 2000000 ∧ (∀ v ∈ g, v.p.length < 2000000) ∧ L.length < 2000000 ∧
      Both ((gV c g && leadersV c L) = false → ∀ nF, K (.tup [.agg [nilP, .val (.slice none 0 0)], errA p0]) [] nF) ((gV c g && leadersV c L) = true → ∀ b nF, hasG (Fs ++ nF) b g → K (.tup [.agg [.ro (gcells c b g), .ints L], .val .nilIface]) [] nF)
  | _ => False⟩
theorem k_impl_newWaves : Keeps' Tryz.prog 52 c_impl_newWaves := by
  refine keeps_of_vc mix TyT_ok (cok_cons k_impl_linkGraph Tryz.func65 rfl rfl (cok_cons k_impl_LeadersValid Tryz.func40 rfl rfl cok_nil)) Tryz.func52 rfl rfl rfl ?_
  intro aargs hs Fs K h
  simp only [c_impl_newWaves] at h
  split at h
  case h_2 => exact h.elim
  rename_i c rows L
  obtain ⟨rfl, g, rfl, p0, p1, p2, hE, hcl, hg, hp, hL, h1, h2⟩ := h
  repeat' (first|((conv=>whnf); (first|refine draw_plan (id := 3) [0] [] (.take 0 (.take 1 (.run 2 (.take 3 .done)))) (by kernel_rfl) (by kernel_rfl) ?_|refine brK_dec (fun _=>?_) (fun _=>?_)|refine brK_ndec (fun _=>?_) (fun _=>?_)|refine brK_not (fun _=>?_) (fun _=>?_)|refine brK_in (fun _=>?_) (fun _=>?_)|refine And.intro (by first|exact rfl|exact ⟨_,rfl,rfl⟩|exact ⟨rfl,rfl,rfl⟩|exact of_decide_eq_true rfl|exact trivial|assumption|omega|(show (_ ≤ _ ∧ _ ≤ _); omega)|(simp; omega)|exact ⟨by first|omega|(simp; omega),_,rfl,rfl⟩) ?_|refine Quo.l (And.intro (by first|exact rfl|assumption|omega|(simp; omega)) ?_)|refine Quo.r (And.intro (by omega) ?_)|refine Both.mk ?_ ?_|refine Exists.intro _ (And.intro rfl ?_)|refine Exists.intro _ (And.intro (err_app hE).e0 ?_)|refine appK_nil ?_|refine fun _=>?_))|exact rfl)
  · rename_i e nF
    exact h1 (by rw [e]; rfl) nF
  · rename_i e b nF hG hl
    rw [gV_comV e, Bool.true_and] at hl
    exact h1 (by rw [e, hl]; rfl) nF
  · rename_i e b nF hG hl
    rw [gV_comV e, Bool.true_and] at hl
    have hG : hasG ((Fs ++ []) ++ nF) b g := hG
    rw [List.append_nil] at hG
    exact h2 (by rw [e, hl]; rfl) b nF hG
end Go.Proofs.YtkabnbjlglippaaGreatDoor
