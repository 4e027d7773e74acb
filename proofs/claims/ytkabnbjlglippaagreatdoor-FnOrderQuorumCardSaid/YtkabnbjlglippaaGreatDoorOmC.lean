/-
The law FnOrderQuorum.
No conditions.
-/
import Derived.Test.YtkabnbjlglippaaGreatDoorOlB
namespace Go.Proofs.YtkabnbjlglippaaGreatDoor
open Go Go.Vc
set_option maxHeartbeats 4000000
set_option maxRecDepth 10000
/-- The members of the first a whose place in a round is in the order. -/
def memT (S : List (Int × Int)) (r : Int) (a : Nat) : List Int := natI ((List.range a).filter fun x => decide ((r, (x : Int)) ∈ S))
theorem memT_snoc {S : List (Int × Int)} {r : Int} {a : Nat} : memT S r (a + 1) = memT S r a ++ if (r, (a : Int)) ∈ S then [(a : Int)] else [] := by
  unfold memT
  rw [List.range_succ, List.filter_append, List.filter_cons, List.filter_nil]
  by_cases e : (r, (a : Int)) ∈ S <;> simp [natI, e]
theorem memT_len {S : List (Int × Int)} {r : Int} {a : Nat} : (memT S r a).length ≤ a := by
  unfold memT
  rw [List.length_map]
  have := List.length_filter_le (fun x : Nat => decide ((r, (x : Int)) ∈ S)) (List.range a)
  simpa using this
theorem memT_mem {S : List (Int × Int)} {r : Int} {a : Nat} {x : Int} : x ∈ memT S r a ↔ (∃ y : Nat, y < a ∧ x = y) ∧ (r, x) ∈ S := by
  unfold memT
  rw [List.mem_map]
  constructor
  · rintro ⟨y, hy, rfl⟩
    obtain ⟨h1, h2⟩ := List.mem_filter.1 hy
    exact ⟨⟨y, by simpa using h1, rfl⟩, of_decide_eq_true h2⟩
  · rintro ⟨⟨y, hy, rfl⟩, h2⟩
    exact ⟨y, List.mem_filter.2 ⟨by simpa using hy, decide_eq_true h2⟩, rfl⟩
theorem memT_asc {S : List (Int × Int)} {r : Int} {a : Nat} : (memT S r a).Pairwise (· < ·) := by
  unfold memT
  rw [List.pairwise_map]
  refine (List.Pairwise.filter _ List.pairwise_lt_range).imp fun h => ?_
  omega
/-- Ascending members are a set of members. -/
theorem memV_asc {c s : List Int} (hp : s.Pairwise (· < ·)) (hb : ∀ x ∈ s, 0 ≤ x ∧ x < c.length) : memV c s = true := by
  rw [memV, List.all_eq_true]
  intro i hi
  have hi : i < s.length := by simpa using hi
  have hx : s[i]? = some s[i] := List.getElem?_eq_getElem hi
  have hxb := hb _ (List.getElem_mem hi)
  rw [mcell, getD_of hx]
  have h1 : inR s[i] 0 ((c.length : Int) - 1) = true := by simp [inR]; omega
  rw [h1, Bool.true_and]
  rcases Nat.eq_zero_or_pos i with h0 | h0
  · simp [h0]
  · have hy : s[i - 1]? = some (s[i - 1]'(by omega)) := List.getElem?_eq_getElem (by omega)
    rw [getD_of hy]
    have := List.pairwise_iff_getElem.1 hp (i - 1) i (by omega) hi (by omega)
    simp [this]
theorem wgt_wsum {c s : List Int} (hn : s.Nodup) (hb : ∀ x ∈ s, 0 ≤ x ∧ x < c.length) : wgt c s = wsum c fun i => decide ((i : Int) ∈ s) := by
  exact wsum_list hn hb
/-- The leader's parents are among them: a quorum. -/
theorem quorum_at {c : List Int} {g : List VxD} {L : List Int} {n k : Nat} {v : VxD} (hok : okO c g L = true) (hn : n ∈ outV c g L) (hk : leadV g L n = some k) (hv : g[k]? = some v) (hr : v.r = 2 * (n : Int) - 1) : quo c ≤ wgt c (memT (slotsP c g L) (2 * (n : Int) - 2) c.length) := by
  have hgv := slots_gV hok
  have hg := gV_ok hgv
  have hvx := vx_out (gV_cell hgv hv).1
  have hm := hg.par v (List.mem_of_getElem? hv)
  have hq := hvx.2.2.2.2 (by omega)
  rw [wgt_wsum hm.1 hm.2.1] at hq
  have hmb : ∀ x ∈ memT (slotsP c g L) (2 * (n : Int) - 2) c.length, 0 ≤ x ∧ x < c.length := by
    intro x hx
    obtain ⟨⟨y, hy, rfl⟩, _⟩ := memT_mem.1 hx
    omega
  have hnd : (memT (slotsP c g L) (2 * (n : Int) - 2) c.length).Nodup := memT_asc.imp fun h e => by omega
  rw [wgt_wsum hnd hmb]
  refine Int.le_trans hq (wsum_mono hg.pos fun i hi => decide_eq_true ?_)
  have hi : (i : Int) ∈ v.p := of_decide_eq_true hi
  obtain ⟨j, hj⟩ := hm.2.2 _ hi
  obtain ⟨u, hu, e1, e2⟩ := find_out hj
  have hil := (hm.2.1 _ hi).2
  refine memT_mem.2 ⟨⟨i, by omega, rfl⟩, (slots_mem hok).2 ⟨j, u, hu, by omega, e2, ?_⟩⟩
  exact (wv_past out_asc out_pos hn hk hu (.step .refl (par_mem hv hi hj)) (by omega)).1
theorem k_laws_FnOrderQuorum : Keeps' Tryz.prog 7 c_ordLaw := by
  refine keeps_of_vc mix TyT_ok (cok_cons k_spec_DrawOrderSlots Tryz.func30 rfl rfl (cok_cons k_impl_OrderSlots Tryz.func26 rfl rfl (cok_cons k_spec_OrderSlots Tryz.func25 rfl rfl (cok_cons k_laws_sameSlots Tryz.func31 rfl rfl (cok_cons k_impl_CommitWaves Tryz.func32 rfl rfl (cok_cons k_laws_hasSlot Tryz.func34 rfl rfl (cok_cons k_impl_MembersWeight Tryz.func35 rfl rfl (cok_cons k_impl_CommitteeQuorum Tryz.func36 rfl rfl cok_nil)))))))) Tryz.func7 rfl rfl rfl ?_
  intro aargs hs Fs K h
  simp only [c_ordLaw] at h
  split at h
  case h_2 => exact h.elim
  rename_i b
  obtain ⟨rfl, p0, p1, p2, hE, hb, h⟩ := h
  repeat' (first|((conv=>whnf); (first|refine Exists.intro p0 (Exists.intro p1 (Exists.intro p2 (And.intro (err_app hE) ?_)))|refine brK_dec (fun _=>?_) (fun _=>?_)|refine brK_ndec (fun _=>?_) (fun _=>?_)|refine brK_not (fun _=>?_) (fun _=>?_)|refine brK_in (fun _=>?_) (fun _=>?_)|refine And.intro (by first|exact rfl|exact ⟨_,rfl,rfl⟩|exact ⟨rfl,rfl,rfl⟩|exact of_decide_eq_true rfl|exact trivial|assumption|omega|(show (_ ≤ _ ∧ _ ≤ _); omega)|(simp; omega)|exact ⟨by first|omega|(simp; omega),_,rfl,rfl⟩) ?_|refine Quo.l (And.intro (by first|exact rfl|assumption|omega|(simp; omega)) ?_)|refine Quo.r (And.intro (by omega) ?_)|refine Both.mk ?_ ?_|refine Exists.intro _ (And.intro rfl ?_)|refine opt_use (by assumption) ?_|refine prow_use (by assumption) ?_|refine vrow_use (by assumption) ?_|refine fun _=>?_))|exact rfl)
  · exact h
  rename_i h1 c g L p3 p4 p5 p6
  have hgs := gfit_small p5
  have hsl := slotsP_len (c := c) (g := g) (L := L)
  have hsm := slotsP_map (c := c) (g := g) (L := L)
  have hwl := wavI_len (c := c) (g := g) (L := L)
  have hs2 : (slotsP c g L).length < 2000000000 := by omega
  repeat' (first|((conv=>whnf); (first|refine Exists.intro p0 (Exists.intro p1 (Exists.intro p2 (And.intro (err_app hE) ?_)))|refine Exists.intro (slotsP c g L) (Exists.intro (slotsP c g L) (And.intro rfl (And.intro rfl (And.intro hs2 (And.intro hs2 ?_)))))|refine brK_dec (fun _=>?_) (fun _=>?_)|refine brK_ndec (fun _=>?_) (fun _=>?_)|refine brK_not (fun _=>?_) (fun _=>?_)|refine brK_in (fun _=>?_) (fun _=>?_)|refine And.intro (by first|exact rfl|exact ⟨_,rfl,rfl⟩|exact ⟨rfl,rfl,rfl⟩|exact of_decide_eq_true rfl|exact trivial|assumption|omega|(show (_ ≤ _ ∧ _ ≤ _); omega)|(simp; omega)|exact ⟨by first|omega|(simp; omega),_,rfl,rfl⟩) ?_|refine Quo.l (And.intro (by first|exact rfl|assumption|omega|(simp; omega)) ?_)|refine Quo.r (And.intro (by omega) ?_)|refine Both.mk ?_ ?_|refine Exists.intro _ (And.intro rfl ?_)|refine opt_use (by assumption) ?_|refine prow_use (by assumption) ?_|refine vrow_use (by assumption) ?_|refine fun _=>?_))|exact rfl)
  · simpa using h
  refine loop_in (ι := Nat) (fun i => mkS 73 [(3, .ints c), (6, .own 0), (8, .own 1), (9, I i)] [.arr 2 ((slotsP c g L).map pR), .iarr (wavI c g L)] Fs)
    (fun i => i ≤ (wavI c g L).length) (fun i => (wavI c g L).length - i) 0 [0, 2] (Nat.zero_le _) ?_ ?_
  · repeat' (first|((conv=>whnf); (first|refine Exists.intro p0 (Exists.intro p1 (Exists.intro p2 (And.intro (err_app hE) ?_)))|refine Exists.intro (slotsP c g L) (Exists.intro (slotsP c g L) (And.intro rfl (And.intro rfl (And.intro hs2 (And.intro hs2 ?_)))))|refine brK_dec (fun _=>?_) (fun _=>?_)|refine brK_ndec (fun _=>?_) (fun _=>?_)|refine brK_not (fun _=>?_) (fun _=>?_)|refine brK_in (fun _=>?_) (fun _=>?_)|refine And.intro (by first|exact rfl|exact ⟨_,rfl,rfl⟩|exact ⟨rfl,rfl,rfl⟩|exact of_decide_eq_true rfl|exact trivial|assumption|omega|(show (_ ≤ _ ∧ _ ≤ _); omega)|(simp; omega)|exact ⟨by first|omega|(simp; omega),_,rfl,rfl⟩) ?_|refine Quo.l (And.intro (by first|exact rfl|assumption|omega|(simp; omega)) ?_)|refine Quo.r (And.intro (by omega) ?_)|refine Both.mk ?_ ?_|refine Exists.intro _ (And.intro rfl ?_)|refine opt_use (by assumption) ?_|refine prow_use (by assumption) ?_|refine vrow_use (by assumption) ?_|refine fun _=>?_))|exact rfl)
  intro i hi
  rcases Nat.lt_or_ge i (wavI c g L).length with hil | hil
  rotate_left
  · repeat' (first|((conv=>whnf); (first|refine brK_dec (fun _=>?_) (fun _=>?_)|refine brK_ndec (fun _=>?_) (fun _=>?_)|refine brK_not (fun _=>?_) (fun _=>?_)|refine brK_in (fun _=>?_) (fun _=>?_)|refine And.intro (by first|exact rfl|exact ⟨_,rfl,rfl⟩|exact ⟨rfl,rfl,rfl⟩|exact of_decide_eq_true rfl|exact trivial|assumption|omega|(show (_ ≤ _ ∧ _ ≤ _); omega)|(simp; omega)|exact ⟨by first|omega|(simp; omega),_,rfl,rfl⟩) ?_|refine Quo.l (And.intro (by first|exact rfl|assumption|omega|(simp; omega)) ?_)|refine Quo.r (And.intro (by omega) ?_)|refine Both.mk ?_ ?_|refine Exists.intro _ (And.intro rfl ?_)|refine opt_use (by assumption) ?_|refine prow_use (by assumption) ?_|refine vrow_use (by assumption) ?_|refine fun _=>?_))|exact rfl)
    · omega
    · exact h
  obtain ⟨n, k, v, r1, r2, r3, r4, r5, r6, r7, r8, r9, r10⟩ := wavI_pos hil
  have r11 : (wavI c g L)[((i : Nat) : Int).toNat]? = some (n : Int) := r1
  have hquo := quorum_at r10 (List.mem_of_getElem? r2) r5 r6 r7
  have hcv := gV_comV (slots_gV r10)
  repeat' (first|((conv=>whnf); (first|refine brK_dec (fun _=>?_) (fun _=>?_)|refine brK_ndec (fun _=>?_) (fun _=>?_)|refine brK_not (fun _=>?_) (fun _=>?_)|refine brK_in (fun _=>?_) (fun _=>?_)|refine And.intro (by first|exact rfl|exact ⟨_,rfl,rfl⟩|exact ⟨rfl,rfl,rfl⟩|exact of_decide_eq_true rfl|exact trivial|assumption|omega|(show (_ ≤ _ ∧ _ ≤ _); omega)|(simp; omega)|exact ⟨by first|omega|(simp; omega),_,rfl,rfl⟩) ?_|refine Quo.l (And.intro (by first|exact rfl|assumption|omega|(simp; omega)) ?_)|refine Quo.r (And.intro (by omega) ?_)|refine Both.mk ?_ ?_|refine Exists.intro _ (And.intro rfl ?_)|refine opt_use (by assumption) ?_|refine prow_use (by assumption) ?_|refine vrow_use (by assumption) ?_|refine fun _=>?_))|exact rfl)
  rotate_right
  · omega
  refine loop_in (ι := Nat) (fun a => mkS 73 [(3, .ints c), (6, .own 0), (8, .own 1), (9, I i), (10, .own 2), (11, I a)] [.arr 2 ((slotsP c g L).map pR), .iarr (wavI c g L), .iarr (memT (slotsP c g L) (2 * (n : Int) - 2) a)] Fs)
    (fun a => a ≤ c.length) (fun a => c.length - a) 0 [0, 1, 2] (Nat.zero_le _) ?_ ?_
  · repeat' (first|((conv=>whnf); (first|refine brK_dec (fun _=>?_) (fun _=>?_)|refine brK_ndec (fun _=>?_) (fun _=>?_)|refine brK_not (fun _=>?_) (fun _=>?_)|refine brK_in (fun _=>?_) (fun _=>?_)|refine And.intro (by first|exact rfl|exact ⟨_,rfl,rfl⟩|exact ⟨rfl,rfl,rfl⟩|exact of_decide_eq_true rfl|exact trivial|assumption|omega|(show (_ ≤ _ ∧ _ ≤ _); omega)|(simp; omega)|exact ⟨by first|omega|(simp; omega),_,rfl,rfl⟩) ?_|refine Quo.l (And.intro (by first|exact rfl|assumption|omega|(simp; omega)) ?_)|refine Quo.r (And.intro (by omega) ?_)|refine Both.mk ?_ ?_|refine Exists.intro _ (And.intro rfl ?_)|refine opt_use (by assumption) ?_|refine prow_use (by assumption) ?_|refine vrow_use (by assumption) ?_|refine fun _=>?_))|exact rfl)
  intro a ha
  have hml := memT_len (S := slotsP c g L) (r := 2 * (n : Int) - 2) (a := a)
  rcases Nat.lt_or_ge a c.length with hal | hal
  · 
    repeat' (first|((conv=>whnf); (first|refine Exists.intro (slotsP c g L) (And.intro rfl (And.intro hs2 ?_))|refine brK_dec (fun _=>?_) (fun _=>?_)|refine brK_ndec (fun _=>?_) (fun _=>?_)|refine brK_not (fun _=>?_) (fun _=>?_)|refine brK_in (fun _=>?_) (fun _=>?_)|refine And.intro (by first|exact rfl|exact (by first|(show (_ + 1) * 8 ≤ 140737488355328; omega)|(show _ + 1 ≤ 9223372036854775807; omega))|exact ⟨_,rfl,rfl⟩|exact ⟨rfl,rfl,rfl⟩|exact of_decide_eq_true rfl|exact trivial|assumption|omega|(show (_ ≤ _ ∧ _ ≤ _); omega)|(simp; omega)|exact ⟨by first|omega|(simp; omega),_,rfl,rfl⟩) ?_|refine Quo.l (And.intro (by first|exact rfl|exact (by first|(show (_ + 1) * 8 ≤ 140737488355328; omega)|(show _ + 1 ≤ 9223372036854775807; omega))|assumption|omega|(simp; omega)) ?_)|refine Quo.r (And.intro (by omega) ?_)|refine Both.mk ?_ ?_|refine Exists.intro _ (And.intro rfl ?_)|refine opt_use (by assumption) ?_|refine prow_use (by assumption) ?_|refine vrow_use (by assumption) ?_|refine fun _=>?_))|exact rfl)
    · rename_i _ e
      have e1 : memT (slotsP c g L) (2 * (n : Int) - 2) (a + 1) = (memT (slotsP c g L) (2 * (n : Int) - 2) a).take (memT (slotsP c g L) (2 * (n : Int) - 2) a).length ++ [(a : Int)] := by
        rw [memT_snoc, if_pos e, List.take_length]
      refine ⟨a + 1, [0, 1, 2], by omega, by omega, ?_⟩
      repeat' (first|((conv=>whnf); (first|refine brK_dec (fun _=>?_) (fun _=>?_)|refine brK_ndec (fun _=>?_) (fun _=>?_)|refine brK_not (fun _=>?_) (fun _=>?_)|refine brK_in (fun _=>?_) (fun _=>?_)|refine And.intro (by first|exact rfl|exact e1|exact ⟨_,rfl,rfl⟩|exact ⟨rfl,rfl,rfl⟩|exact of_decide_eq_true rfl|exact trivial|assumption|omega|(show (_ ≤ _ ∧ _ ≤ _); omega)|(simp; omega)|exact ⟨by first|omega|(simp; omega),_,rfl,rfl⟩) ?_|refine Quo.l (And.intro (by first|exact rfl|exact e1|assumption|omega|(simp; omega)) ?_)|refine Quo.r (And.intro (by omega) ?_)|refine Both.mk ?_ ?_|refine Exists.intro _ (And.intro rfl ?_)|refine opt_use (by assumption) ?_|refine prow_use (by assumption) ?_|refine vrow_use (by assumption) ?_|refine fun _=>?_))|exact rfl)
    · rename_i _ e
      have e1 : memT (slotsP c g L) (2 * (n : Int) - 2) (a + 1) = memT (slotsP c g L) (2 * (n : Int) - 2) a := by
        rw [memT_snoc, if_neg e, List.append_nil]
      refine ⟨a + 1, [0, 1, 2], by omega, by omega, ?_⟩
      repeat' (first|((conv=>whnf); (first|refine brK_dec (fun _=>?_) (fun _=>?_)|refine brK_ndec (fun _=>?_) (fun _=>?_)|refine brK_not (fun _=>?_) (fun _=>?_)|refine brK_in (fun _=>?_) (fun _=>?_)|refine And.intro (by first|exact rfl|exact e1|exact ⟨_,rfl,rfl⟩|exact ⟨rfl,rfl,rfl⟩|exact of_decide_eq_true rfl|exact trivial|assumption|omega|(show (_ ≤ _ ∧ _ ≤ _); omega)|(simp; omega)|exact ⟨by first|omega|(simp; omega),_,rfl,rfl⟩) ?_|refine Quo.l (And.intro (by first|exact rfl|exact e1|assumption|omega|(simp; omega)) ?_)|refine Quo.r (And.intro (by omega) ?_)|refine Both.mk ?_ ?_|refine Exists.intro _ (And.intro rfl ?_)|refine opt_use (by assumption) ?_|refine prow_use (by assumption) ?_|refine vrow_use (by assumption) ?_|refine fun _=>?_))|exact rfl)
    all_goals omega
  · obtain rfl : a = c.length := by omega
    have hmv : memV c (memT (slotsP c g L) (2 * (n : Int) - 2) c.length) = true := memV_asc memT_asc fun x hx => by
      obtain ⟨⟨y, hy, rfl⟩, _⟩ := memT_mem.1 hx
      omega
    have hif : (if (comV c && memV c (memT (slotsP c g L) (2 * (n : Int) - 2) c.length)) = true then wgt c (memT (slotsP c g L) (2 * (n : Int) - 2) c.length) else -1) = wgt c (memT (slotsP c g L) (2 * (n : Int) - 2) c.length) := by rw [hcv, hmv]; rfl
    have hif2 : (if comV c = true then quo c else -1) = quo c := if_pos hcv
    repeat' (first|((conv=>whnf); (first|refine brK_dec (fun _=>?_) (fun _=>?_)|refine brK_ndec (fun _=>?_) (fun _=>?_)|refine brK_not (fun _=>?_) (fun _=>?_)|refine brK_in (fun _=>?_) (fun _=>?_)|refine And.intro (by first|exact rfl|exact ⟨_,rfl,rfl⟩|exact ⟨rfl,rfl,rfl⟩|exact of_decide_eq_true rfl|exact trivial|assumption|omega|(show (_ ≤ _ ∧ _ ≤ _); omega)|(simp; omega)|exact ⟨by first|omega|(simp; omega),_,rfl,rfl⟩) ?_|refine Quo.l (And.intro (by first|exact rfl|assumption|omega|(simp; omega)) ?_)|refine Quo.r (And.intro (by omega) ?_)|refine Both.mk ?_ ?_|refine Exists.intro _ (And.intro rfl ?_)|refine opt_use (by assumption) ?_|refine prow_use (by assumption) ?_|refine vrow_use (by assumption) ?_|refine fun _=>?_))|exact rfl)
    · omega
    · omega
    · rename_i _ e
      rw [hif, hif2] at e
      omega
    · refine ⟨i + 1, [0, 1], by omega, by omega, ?_⟩
      repeat' (first|((conv=>whnf); (first|refine brK_dec (fun _=>?_) (fun _=>?_)|refine brK_ndec (fun _=>?_) (fun _=>?_)|refine brK_not (fun _=>?_) (fun _=>?_)|refine brK_in (fun _=>?_) (fun _=>?_)|refine And.intro (by first|exact rfl|exact ⟨_,rfl,rfl⟩|exact ⟨rfl,rfl,rfl⟩|exact of_decide_eq_true rfl|exact trivial|assumption|omega|(show (_ ≤ _ ∧ _ ≤ _); omega)|(simp; omega)|exact ⟨by first|omega|(simp; omega),_,rfl,rfl⟩) ?_|refine Quo.l (And.intro (by first|exact rfl|assumption|omega|(simp; omega)) ?_)|refine Quo.r (And.intro (by omega) ?_)|refine Both.mk ?_ ?_|refine Exists.intro _ (And.intro rfl ?_)|refine opt_use (by assumption) ?_|refine prow_use (by assumption) ?_|refine vrow_use (by assumption) ?_|refine fun _=>?_))|exact rfl)
end Go.Proofs.YtkabnbjlglippaaGreatDoor
