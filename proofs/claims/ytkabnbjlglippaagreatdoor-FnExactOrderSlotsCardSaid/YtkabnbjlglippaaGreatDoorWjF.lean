/-
A chain of waves, committed waves, by the program.
No conditions.
-/
import Derived.Test.YtkabnbjlglippaaGreatDoorWjE
import Derived.Test.YtkabnbjlglippaaGreatDoorWjC
import Derived.Test.YtkabnbjlglippaaGreatDoorWgX
namespace Go.Proofs.YtkabnbjlglippaaGreatDoor
open Go Go.Vc
set_option maxHeartbeats 4000000
set_option maxRecDepth 10000
theorem idxT_mem {g : List VxD} {s k : Nat} (hk : k < g.length) : (k : Int) ∈ natI (idxT (pastV g s)) ↔ Reach g s k := by
  have hx : (pastV g s)[k]? = some ((pastV g s)[k]'(by rw [past_len]; exact hk)) := List.getElem?_eq_getElem _
  have e : (pastV g s).getD k false = (pastV g s)[k]'(by rw [past_len]; exact hk) := by rw [List.getD_eq_getElem?_getD, hx]; rfl
  rw [← past_get hx, ← e]
  constructor
  · intro h
    obtain ⟨j, hj, he⟩ := List.mem_map.1 h
    have : j = k := by omega
    subst this
    have := (List.mem_filter.1 hj).2
    simpa using this
  · intro h
    exact List.mem_map.2 ⟨k, List.mem_filter.2 ⟨List.mem_range.2 (by rw [past_len]; exact hk), h⟩, rfl⟩
theorem idxT_asc {b : List Bool} : (natI (idxT b)).Pairwise (· ≤ ·) := by
  unfold idxT
  rw [List.pairwise_map]
  refine (List.Pairwise.filter _ List.pairwise_lt_range).imp fun h => ?_
  omega
theorem idxT_len {g : List VxD} {s : Nat} : (natI (idxT (pastV g s))).length ≤ g.length := by
  have := List.length_filter_le (fun j => (pastV g s).getD j false) (List.range (pastV g s).length)
  simpa [idxT, past_len] using this
def c_waves_chain : Con := ⟨1, 0, false, fun xs hs Fs K => match xs with
  | [.agg [.ro (.ints c :: .sl 1 rows :: pl), .ints L], .val (.int .i64 w), .val (.int .i64 z)] => hs = [] ∧ ∃ b g p0 p1 p2, rows = rpRows b (List.range g.length) ∧ pl = plcs b g ∧ gV c g = true ∧ g.length < 2000000 ∧ (∀ v ∈ g, v.p.length < 2000000) ∧ hasG Fs b g ∧ hasErr Fs p0 p1 p2 ∧ L.length ≤ 15 ∧
      ∃ n m : Nat, w = n ∧ z = m ∧ 1 ≤ n ∧ n ≤ L.length ∧ hasV g L n = true ∧ m ≤ L.length ∧ K (.own 0) [.iarr (natI (chW (hasV g L) (linkV g L) n m))] []
  | _ => False⟩
theorem k_impl_waves_chain : Keeps' Tryz.prog 85 c_waves_chain := by
  refine keeps_of_vc mix TyT_ok (cok_cons k_impl_waves_leader Tryz.func79 rfl rfl (cok_cons k_impl_graph_past Tryz.func71 rfl rfl (cok_cons k_errors_Is Tryz.func110 rfl rfl (cok_cons k_slices_BinarySearch Tryz.func111 rfl rfl (cok_cons k_slices_Reverse Tryz.func112 rfl rfl cok_nil))))) Tryz.func85 rfl rfl rfl ?_
  intro aargs hs Fs K h
  simp only [c_waves_chain] at h
  split at h
  case h_2 => exact h.elim
  rename_i c rows pl L w z
  obtain ⟨rfl, b, g, p0, p1, p2, rfl, rfl, hv, hg, hp, hG, hE, hL, n, m, rfl, rfl, n0, n1, hh, hm, h⟩ := h
  have hG2 : hasG (Fs ++ ([] : List Fam)) b g := hasG_app hG
  have hE2 : hasErr (Fs ++ ([] : List Fam)) p0 p1 p2 := err_app hE
  obtain ⟨i0, hi0⟩ := has_lead hh
  have hil0 : i0 < g.length := by
    obtain ⟨_, _, hkf⟩ := lead_out hi0
    obtain ⟨u, hu, _⟩ := find_out hkf
    exact (List.getElem?_eq_some_iff.1 hu).1
  repeat' (first|((conv=>whnf); (first|refine Exists.intro b (Exists.intro g (Exists.intro p0 (Exists.intro p1 (Exists.intro p2 (And.intro rfl (And.intro hv (And.intro hE2 (And.intro hL (Exists.intro n (And.intro rfl (And.intro n0 (And.intro n1 ?_))))))))))))|refine brK_dec (fun _=>?_) (fun _=>?_)|refine brK_ndec (fun _=>?_) (fun _=>?_)|refine brK_not (fun _=>?_) (fun _=>?_)|refine brK_in (fun _=>?_) (fun _=>?_)|refine And.intro (by first|exact rfl|exact ⟨_,rfl,rfl⟩|exact ⟨rfl,rfl,rfl⟩|exact of_decide_eq_true rfl|exact trivial|assumption|omega|(show (_ ≤ _ ∧ _ ≤ _); omega)|(simp; omega)|exact ⟨by first|omega|(simp; omega),_,rfl,rfl⟩) ?_|refine Quo.l (And.intro (by first|exact rfl|assumption|omega|(simp; omega)) ?_)|refine Quo.r (And.intro (by omega) ?_)|refine Both.mk ?_ ?_|refine Exists.intro _ (And.intro rfl ?_)|refine fun _=>?_))|exact rfl)
  · rename_i hld
    rw [hld] at hi0
    cases hi0
  rename_i i1 hi1
  rw [hi0] at hi1
  cases hi1
  repeat' (first|((conv=>whnf); (first|refine Exists.intro b (Exists.intro g (Exists.intro i0 (And.intro rfl (And.intro rfl (And.intro hG2 (And.intro hv (And.intro hil0 (And.intro hg (And.intro hp ?_)))))))))|refine brK_dec (fun _=>?_) (fun _=>?_)|refine brK_ndec (fun _=>?_) (fun _=>?_)|refine brK_not (fun _=>?_) (fun _=>?_)|refine brK_in (fun _=>?_) (fun _=>?_)|refine And.intro (by first|exact rfl|exact ⟨_,rfl,rfl⟩|exact ⟨rfl,rfl,rfl⟩|exact of_decide_eq_true rfl|exact trivial|assumption|omega|(show (_ ≤ _ ∧ _ ≤ _); omega)|(simp; omega)|exact ⟨by first|omega|(simp; omega),_,rfl,rfl⟩) ?_|refine Quo.l (And.intro (by first|exact rfl|assumption|omega|(simp; omega)) ?_)|refine Quo.r (And.intro (by omega) ?_)|refine Both.mk ?_ ?_|refine Exists.intro _ (And.intro rfl ?_)|refine fun _=>?_))|exact rfl)
  refine loop_in (ι := Nat × List Nat × Nat × Nat) (fun q => mkS 67 [(0, .agg [.ro (.ints c :: .sl 1 (rpRows b (List.range g.length)) :: plcs b g), .ints L]), (1, I n), (2, I m), (3, .ptr 0 0), (9, .own 1), (10, .own 2), (11, I q.1)]
      [.cells [.ro (.ints c :: .sl 1 (rpRows b (List.range g.length)) :: plcs b g), .ints L], .iarr (natI q.2.1.reverse), .iarr (natI (idxT (pastV g q.2.2.2)))] Fs)
    (fun q => q.1 ≤ n - 1 ∧ q.2.1.length + q.1 ≤ n ∧ leadV g L q.2.2.1 = some q.2.2.2 ∧ q.2.2.2 < g.length ∧ chW (hasV g L) (linkV g L) n m = dnW (hasV g L) (linkV g L) q.2.2.1 q.1 m ++ q.2.1)
    (fun q => q.1) (n - 1, [n], n, i0) [0, 1, 2] ⟨Nat.le_refl _, by dsimp only [List.length]; omega, hi0, hil0, rfl⟩ ?_ ?_
  · repeat' (first|((conv=>whnf); (first|refine brK_dec (fun _=>?_) (fun _=>?_)|refine brK_ndec (fun _=>?_) (fun _=>?_)|refine brK_not (fun _=>?_) (fun _=>?_)|refine brK_in (fun _=>?_) (fun _=>?_)|refine And.intro (by first|exact rfl|exact (by first|(dsimp only; omega)|(simp; omega))|exact ⟨_,rfl,rfl⟩|exact ⟨rfl,rfl,rfl⟩|exact of_decide_eq_true rfl|exact trivial|assumption|omega|(show (_ ≤ _ ∧ _ ≤ _); omega)|(simp; omega)|exact ⟨by first|omega|(simp; omega),_,rfl,rfl⟩) ?_|refine Quo.l (And.intro (by first|exact rfl|exact (by first|(dsimp only; omega)|(simp; omega))|assumption|omega|(simp; omega)) ?_)|refine Quo.r (And.intro (by omega) ?_)|refine Both.mk ?_ ?_|refine Exists.intro _ (And.intro rfl ?_)|refine fun _=>?_))|exact rfl)
  rintro ⟨x, ch, cur, ci⟩ ⟨hx, hchl, hcur, hci, hch⟩
  dsimp only at hx hchl hcur hci hch ⊢
  have hcl : (natI ch.reverse).length = ch.length := by simp
  have hil := idxT_len (g := g) (s := ci)
  repeat' (first|((conv=>whnf); (first|refine Exists.intro b (Exists.intro g (Exists.intro p0 (Exists.intro p1 (Exists.intro p2 (And.intro rfl (And.intro hv (And.intro hE2 (And.intro hL (Exists.intro x (And.intro rfl (And.intro (by omega) (And.intro (by omega) ?_))))))))))))|refine Exists.intro _ (And.intro hE2.e2 ?_)|refine brK_dec (fun _=>?_) (fun _=>?_)|refine brK_ndec (fun _=>?_) (fun _=>?_)|refine brK_not (fun _=>?_) (fun _=>?_)|refine brK_in (fun _=>?_) (fun _=>?_)|refine And.intro (by first|exact rfl|exact ⟨_,rfl,rfl⟩|exact ⟨rfl,rfl,rfl⟩|exact of_decide_eq_true rfl|exact trivial|assumption|omega|(show (_ ≤ _ ∧ _ ≤ _); omega)|(simp; omega)|exact ⟨by first|omega|(simp; omega),_,rfl,rfl⟩) ?_|refine Quo.l (And.intro (by first|exact rfl|assumption|omega|(simp; omega)) ?_)|refine Quo.r (And.intro (by omega) ?_)|refine Both.mk ?_ ?_|refine Exists.intro _ (And.intro rfl ?_)|refine fun _=>?_))|exact rfl)
  · rename_i h0 hld
    obtain ⟨y, rfl⟩ : ∃ y, x = y + 1 := ⟨x - 1, by omega⟩
    have hh : hasV g L (y + 1) = false := by rw [hasV, hld]; rfl
    refine ⟨(y, ch, cur, ci), [0, 1, 2], ⟨by dsimp only; omega, by dsimp only; omega, hcur, hci, by rw [hch, dn_no (by omega) (.inl hh)]⟩, by dsimp only; omega, ?_⟩
    repeat' (first|((conv=>whnf); (first|refine Exists.intro b (Exists.intro g (Exists.intro p0 (Exists.intro p1 (Exists.intro p2 (And.intro rfl (And.intro hv (And.intro hE2 (And.intro hL (Exists.intro x (And.intro rfl (And.intro (by omega) (And.intro (by omega) ?_))))))))))))|refine Exists.intro _ (And.intro hE2.e2 ?_)|refine brK_dec (fun _=>?_) (fun _=>?_)|refine brK_ndec (fun _=>?_) (fun _=>?_)|refine brK_not (fun _=>?_) (fun _=>?_)|refine brK_in (fun _=>?_) (fun _=>?_)|refine And.intro (by first|exact rfl|exact (by first|(dsimp only; omega)|(simp; omega))|exact ⟨_,rfl,rfl⟩|exact ⟨rfl,rfl,rfl⟩|exact of_decide_eq_true rfl|exact trivial|assumption|omega|(show (_ ≤ _ ∧ _ ≤ _); omega)|(simp; omega)|exact ⟨by first|omega|(simp; omega),_,rfl,rfl⟩) ?_|refine Quo.l (And.intro (by first|exact rfl|exact (by first|(dsimp only; omega)|(simp; omega))|assumption|omega|(simp; omega)) ?_)|refine Quo.r (And.intro (by omega) ?_)|refine Both.mk ?_ ?_|refine Exists.intro _ (And.intro rfl ?_)|refine fun _=>?_))|exact rfl)
  · rename_i h0 k hk
    obtain ⟨y, rfl⟩ : ∃ y, x = y + 1 := ⟨x - 1, by omega⟩
    have hh : hasV g L (y + 1) = true := by rw [hasV, hk]; rfl
    obtain ⟨v, hv1⟩ : ∃ v, g[k]? = some v := by
      obtain ⟨_, _, hkf⟩ := lead_out hk
      obtain ⟨u, hu, _⟩ := find_out hkf
      exact ⟨u, hu⟩
    have hkl := (List.getElem?_eq_some_iff.1 hv1).1
    have hmem := idxT_mem (g := g) (s := ci) hkl
    repeat' (first|((conv=>whnf); (first|refine Exists.intro _ (And.intro (at_own (hG2 _ _ hv1)) ?_)|refine And.intro idxT_asc ?_|refine Exists.intro b (Exists.intro g (Exists.intro k (And.intro rfl (And.intro rfl (And.intro hG2 (And.intro hv (And.intro hkl (And.intro hg (And.intro hp ?_)))))))))|refine brK_dec (fun _=>?_) (fun _=>?_)|refine brK_ndec (fun _=>?_) (fun _=>?_)|refine brK_not (fun _=>?_) (fun _=>?_)|refine brK_in (fun _=>?_) (fun _=>?_)|refine And.intro (by first|exact rfl|exact ⟨_,rfl,rfl⟩|exact ⟨rfl,rfl,rfl⟩|exact of_decide_eq_true rfl|exact trivial|assumption|omega|(show (_ ≤ _ ∧ _ ≤ _); omega)|(simp; omega)|exact ⟨by first|omega|(simp; omega),_,rfl,rfl⟩) ?_|refine Quo.l (And.intro (by first|exact rfl|assumption|omega|(simp; omega)) ?_)|refine Quo.r (And.intro (by omega) ?_)|refine Both.mk ?_ ?_|refine Exists.intro _ (And.intro rfl ?_)|refine fun _=>?_))|exact rfl)
    · rename_i hm2
      have hr : linkV g L cur (y + 1) = true := link_in hcur hk (hmem.1 hm2)
      refine ⟨(y, (y + 1) :: ch, y + 1, k), [0, 1, 4], ⟨by dsimp only; omega, by dsimp only [List.length]; omega, hk, hkl, ?_⟩, by dsimp only; omega, ?_⟩
      · rw [hch, dn_yes (by omega) hh hr, List.append_assoc]
        rfl
      repeat' (first|((conv=>whnf); (first|refine Exists.intro _ (And.intro (at_own (hG2 _ _ hv1)) ?_)|refine And.intro idxT_asc ?_|refine Exists.intro b (Exists.intro g (Exists.intro k (And.intro rfl (And.intro rfl (And.intro hG2 (And.intro hv (And.intro hkl (And.intro hg (And.intro hp ?_)))))))))|refine brK_dec (fun _=>?_) (fun _=>?_)|refine brK_ndec (fun _=>?_) (fun _=>?_)|refine brK_not (fun _=>?_) (fun _=>?_)|refine brK_in (fun _=>?_) (fun _=>?_)|refine And.intro (by first|exact rfl|exact (by first|(dsimp only; omega)|(simp [List.take_of_length_le]; done)|(simp; omega))|exact ⟨_,rfl,rfl⟩|exact ⟨rfl,rfl,rfl⟩|exact of_decide_eq_true rfl|exact trivial|assumption|omega|(show (_ ≤ _ ∧ _ ≤ _); omega)|(simp; omega)|exact ⟨by first|omega|(simp; omega),_,rfl,rfl⟩) ?_|refine Quo.l (And.intro (by first|exact rfl|exact (by first|(dsimp only; omega)|(simp [List.take_of_length_le]; done)|(simp; omega))|assumption|omega|(simp; omega)) ?_)|refine Quo.r (And.intro (by omega) ?_)|refine Both.mk ?_ ?_|refine Exists.intro _ (And.intro rfl ?_)|refine fun _=>?_))|exact rfl)
    · rename_i hm2
      have hr : linkV g L cur (y + 1) = false := by
        cases e : linkV g L cur (y + 1) with
        | false => rfl
        | true =>
          obtain ⟨a, b, f1, f2, f3⟩ := link_out e
          rw [hcur] at f1
          rw [hk] at f2
          cases f1
          cases f2
          exact absurd (hmem.2 f3) hm2
      refine ⟨(y, ch, cur, ci), [0, 1, 2], ⟨by dsimp only; omega, by dsimp only; omega, hcur, hci, by rw [hch, dn_no (by omega) (.inr hr)]⟩, by dsimp only; omega, ?_⟩
      repeat' (first|((conv=>whnf); (first|refine Exists.intro _ (And.intro (at_own (hG2 _ _ hv1)) ?_)|refine And.intro idxT_asc ?_|refine Exists.intro b (Exists.intro g (Exists.intro k (And.intro rfl (And.intro rfl (And.intro hG2 (And.intro hv (And.intro hkl (And.intro hg (And.intro hp ?_)))))))))|refine brK_dec (fun _=>?_) (fun _=>?_)|refine brK_ndec (fun _=>?_) (fun _=>?_)|refine brK_not (fun _=>?_) (fun _=>?_)|refine brK_in (fun _=>?_) (fun _=>?_)|refine And.intro (by first|exact rfl|exact (by first|(dsimp only; omega)|(simp; omega))|exact ⟨_,rfl,rfl⟩|exact ⟨rfl,rfl,rfl⟩|exact of_decide_eq_true rfl|exact trivial|assumption|omega|(show (_ ≤ _ ∧ _ ≤ _); omega)|(simp; omega)|exact ⟨by first|omega|(simp; omega),_,rfl,rfl⟩) ?_|refine Quo.l (And.intro (by first|exact rfl|exact (by first|(dsimp only; omega)|(simp; omega))|assumption|omega|(simp; omega)) ?_)|refine Quo.r (And.intro (by omega) ?_)|refine Both.mk ?_ ?_|refine Exists.intro _ (And.intro rfl ?_)|refine fun _=>?_))|exact rfl)
  conv => whnf
  refine And.intro List.length_reverse ?_
  repeat' (first|((conv=>whnf); (first|refine brK_dec (fun _=>?_) (fun _=>?_)|refine brK_ndec (fun _=>?_) (fun _=>?_)|refine brK_not (fun _=>?_) (fun _=>?_)|refine brK_in (fun _=>?_) (fun _=>?_)|refine And.intro (by first|exact rfl|exact ⟨_,rfl,rfl⟩|exact ⟨rfl,rfl,rfl⟩|exact of_decide_eq_true rfl|exact trivial|assumption|omega|(show (_ ≤ _ ∧ _ ≤ _); omega)|(simp; omega)|exact ⟨by first|omega|(simp; omega),_,rfl,rfl⟩) ?_|refine Quo.l (And.intro (by first|exact rfl|assumption|omega|(simp; omega)) ?_)|refine Quo.r (And.intro (by omega) ?_)|refine Both.mk ?_ ?_|refine Exists.intro _ (And.intro rfl ?_)|refine fun _=>?_))|exact rfl)
  rename_i h0
  have e : natI (chW (hasV g L) (linkV g L) n m) = (natI ch.reverse).reverse := by
    rw [hch, dn_end (by omega), List.nil_append]
    simp [List.map_reverse]
  rw [e] at h
  exact h
def c_waves_committed : Con := ⟨1, 0, false, fun xs hs Fs K => match xs with
  | [.agg [.ro (.ints c :: .sl 1 rows :: pl), .ints L]] => hs = [] ∧ ∃ b g p0 p1 p2, rows = rpRows b (List.range g.length) ∧ pl = plcs b g ∧ gV c g = true ∧ g.length < 2000000 ∧ (∀ v ∈ g, v.p.length < 2000000) ∧ hasG Fs b g ∧ hasErr Fs p0 p1 p2 ∧ L.length ≤ 15 ∧
      K (.own 0) [.iarr (natI (outV c g L))] []
  | _ => False⟩
theorem ch_len {has : Nat → Bool} {R : Nat → Nat → Bool} {w last : Nat} : (chW has R w last).length ≤ w + 1 := by
  have key : ∀ x cur, (dnW has R cur x last).length ≤ x := by
    intro x
    induction x with
    | zero => intro cur; simp [dnW]
    | succ x ih =>
      intro cur
      unfold dnW
      split
      · simp
      · split
        · have := ih (x + 1)
          simp
          omega
        · have := ih cur
          omega
  have := key (w - 1) w
  unfold chW
  simp
  omega
theorem k_impl_waves_committed : Keeps' Tryz.prog 59 c_waves_committed := by
  refine keeps_of_vc mix TyT_ok (cok_cons k_impl_waves_direct Tryz.func84 rfl rfl (cok_cons k_impl_waves_chain Tryz.func85 rfl rfl cok_nil)) Tryz.func59 rfl rfl rfl ?_
  intro aargs hs Fs K h
  simp only [c_waves_committed] at h
  split at h
  case h_2 => exact h.elim
  rename_i c rows pl L
  obtain ⟨rfl, b, g, p0, p1, p2, rfl, rfl, hv, hg, hp, hG, hE, hL, h⟩ := h
  have hG2 : hasG (Fs ++ ([] : List Fam)) b g := hasG_app hG
  have hE2 : hasErr (Fs ++ ([] : List Fam)) p0 p1 p2 := err_app hE
  repeat' (first|((conv=>whnf); (first|refine brK_dec (fun _=>?_) (fun _=>?_)|refine brK_ndec (fun _=>?_) (fun _=>?_)|refine brK_not (fun _=>?_) (fun _=>?_)|refine brK_in (fun _=>?_) (fun _=>?_)|refine And.intro (by first|exact rfl|exact ⟨_,rfl,rfl⟩|exact ⟨rfl,rfl,rfl⟩|exact of_decide_eq_true rfl|exact trivial|assumption|omega|(show (_ ≤ _ ∧ _ ≤ _); omega)|(simp; omega)|exact ⟨by first|omega|(simp; omega),_,rfl,rfl⟩) ?_|refine Quo.l (And.intro (by first|exact rfl|assumption|omega|(simp; omega)) ?_)|refine Quo.r (And.intro (by omega) ?_)|refine Both.mk ?_ ?_|refine Exists.intro _ (And.intro rfl ?_)|refine fun _=>?_))|exact rfl)
  refine loop_in (ι := Nat) (fun n => mkS 25 [(0, .agg [.ro (.ints c :: .sl 1 (rpRows b (List.range g.length)) :: plcs b g), .ints L]), (1, .ptr 0 0), (3, .own 1), (4, I (wavL c g L n).2), (5, I (n + 1))]
      [.cells [.ro (.ints c :: .sl 1 (rpRows b (List.range g.length)) :: plcs b g), .ints L], .iarr (natI (wavL c g L n).1)] Fs)
    (fun n => n ≤ L.length) (fun n => L.length - n) 0 [0, 1] (Nat.zero_le _) ?_ ?_
  · repeat' (first|((conv=>whnf); (first|refine brK_dec (fun _=>?_) (fun _=>?_)|refine brK_ndec (fun _=>?_) (fun _=>?_)|refine brK_not (fun _=>?_) (fun _=>?_)|refine brK_in (fun _=>?_) (fun _=>?_)|refine And.intro (by first|exact rfl|exact (by simp [wavL,cmW])|exact ⟨_,rfl,rfl⟩|exact ⟨rfl,rfl,rfl⟩|exact of_decide_eq_true rfl|exact trivial|assumption|omega|(show (_ ≤ _ ∧ _ ≤ _); omega)|(simp; omega)|exact ⟨by first|omega|(simp; omega),_,rfl,rfl⟩) ?_|refine Quo.l (And.intro (by first|exact rfl|exact (by simp [wavL,cmW])|assumption|omega|(simp; omega)) ?_)|refine Quo.r (And.intro (by omega) ?_)|refine Both.mk ?_ ?_|refine Exists.intro _ (And.intro rfl ?_)|refine fun _=>?_))|exact rfl)
  intro n hn
  dsimp only at hn ⊢
  have hwl := wav_len (c := c) (g := g) (L := L) (n := n)
  have hwll : (natI (wavL c g L n).1).length ≤ n := by simp [hwl.1]
  have hcl := ch_len (has := hasV g L) (R := linkV g L) (w := n + 1) (last := (wavL c g L n).2)
  have hcll : (natI (chW (hasV g L) (linkV g L) (n + 1) (wavL c g L n).2)).length ≤ n + 2 := by simpa using hcl
  repeat' (first|((conv=>whnf); (first|refine Exists.intro b (Exists.intro g (Exists.intro p0 (Exists.intro p1 (Exists.intro p2 (And.intro rfl (And.intro hv (And.intro hg (And.intro hp (And.intro hG2 (And.intro hE2 (And.intro hL (Exists.intro (n + 1) (And.intro (by simp) (And.intro (by omega) (And.intro (by omega) ?_)))))))))))))))|refine brK_dec (fun _=>?_) (fun _=>?_)|refine brK_ndec (fun _=>?_) (fun _=>?_)|refine brK_not (fun _=>?_) (fun _=>?_)|refine brK_in (fun _=>?_) (fun _=>?_)|refine And.intro (by first|exact rfl|exact ⟨_,rfl,rfl⟩|exact ⟨rfl,rfl,rfl⟩|exact of_decide_eq_true rfl|exact trivial|assumption|omega|(show (_ ≤ _ ∧ _ ≤ _); omega)|(simp; omega)|exact ⟨by first|omega|(simp; omega),_,rfl,rfl⟩) ?_|refine Quo.l (And.intro (by first|exact rfl|assumption|omega|(simp; omega)) ?_)|refine Quo.r (And.intro (by omega) ?_)|refine Both.mk ?_ ?_|refine Exists.intro _ (And.intro rfl ?_)|refine fun _=>?_))|exact rfl)
  · rename_i h0 hd
    have hh := dir_has _ hd
    refine ⟨b, g, p0, p1, p2, rfl, rfl, hv, hg, hp, hG2, hE2, hL, n + 1, (wavL c g L n).2, by simp, rfl, by omega, by omega, hh, by omega, ?_⟩
    have e : wavL c g L (n + 1) = ((wavL c g L n).1 ++ chW (hasV g L) (linkV g L) (n + 1) (wavL c g L n).2, n + 1) := cm_yes hd
    repeat' (first|((conv=>whnf); (first|refine brK_dec (fun _=>?_) (fun _=>?_)|refine brK_ndec (fun _=>?_) (fun _=>?_)|refine brK_not (fun _=>?_) (fun _=>?_)|refine brK_in (fun _=>?_) (fun _=>?_)|refine And.intro (by first|exact rfl|exact (by first|exact Nat.le_trans (Nat.mul_le_mul_right _ (show _ ≤ 100 from by simp; omega)) (by decide)|(simp; omega))|exact ⟨_,rfl,rfl⟩|exact ⟨rfl,rfl,rfl⟩|exact of_decide_eq_true rfl|exact trivial|assumption|omega|(show (_ ≤ _ ∧ _ ≤ _); omega)|(simp; omega)|exact ⟨by first|omega|(simp; omega),_,rfl,rfl⟩) ?_|refine Quo.l (And.intro (by first|exact rfl|exact (by first|exact Nat.le_trans (Nat.mul_le_mul_right _ (show _ ≤ 100 from by simp; omega)) (by decide)|(simp; omega))|assumption|omega|(simp; omega)) ?_)|refine Quo.r (And.intro (by omega) ?_)|refine Both.mk ?_ ?_|refine Exists.intro _ (And.intro rfl ?_)|refine fun _=>?_))|exact rfl)
    refine ⟨n + 1, [0, 1], by omega, by omega, ?_⟩
    repeat' (first|((conv=>whnf); (first|refine brK_dec (fun _=>?_) (fun _=>?_)|refine brK_ndec (fun _=>?_) (fun _=>?_)|refine brK_not (fun _=>?_) (fun _=>?_)|refine brK_in (fun _=>?_) (fun _=>?_)|refine And.intro (by first|exact rfl|exact (by rw [e]; simp [List.take_of_length_le])|exact ⟨_,rfl,rfl⟩|exact ⟨rfl,rfl,rfl⟩|exact of_decide_eq_true rfl|exact trivial|assumption|omega|(show (_ ≤ _ ∧ _ ≤ _); omega)|(simp; omega)|exact ⟨by first|omega|(simp; omega),_,rfl,rfl⟩) ?_|refine Quo.l (And.intro (by first|exact rfl|exact (by rw [e]; simp [List.take_of_length_le])|assumption|omega|(simp; omega)) ?_)|refine Quo.r (And.intro (by omega) ?_)|refine Both.mk ?_ ?_|refine Exists.intro _ (And.intro rfl ?_)|refine fun _=>?_))|exact rfl)
  · rename_i h0 hd
    have e : wavL c g L (n + 1) = wavL c g L n := cm_skip hd
    refine ⟨n + 1, [0, 1], by omega, by omega, ?_⟩
    repeat' (first|((conv=>whnf); (first|refine brK_dec (fun _=>?_) (fun _=>?_)|refine brK_ndec (fun _=>?_) (fun _=>?_)|refine brK_not (fun _=>?_) (fun _=>?_)|refine brK_in (fun _=>?_) (fun _=>?_)|refine And.intro (by first|exact rfl|exact (by rw [e])|exact ⟨_,rfl,rfl⟩|exact ⟨rfl,rfl,rfl⟩|exact of_decide_eq_true rfl|exact trivial|assumption|omega|(show (_ ≤ _ ∧ _ ≤ _); omega)|(simp; omega)|exact ⟨by first|omega|(simp; omega),_,rfl,rfl⟩) ?_|refine Quo.l (And.intro (by first|exact rfl|exact (by rw [e])|assumption|omega|(simp; omega)) ?_)|refine Quo.r (And.intro (by omega) ?_)|refine Both.mk ?_ ?_|refine Exists.intro _ (And.intro rfl ?_)|refine fun _=>?_))|exact rfl)
  · rename_i h0
    obtain rfl : n = L.length := by omega
    exact h
end Go.Proofs.YtkabnbjlglippaaGreatDoor
