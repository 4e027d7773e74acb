/-
The law FnGraphPastKeeps.
No conditions.
-/
import Derived.Test.YtalbgcpfekmfoaaGaE
import Derived.Test.YtalbgcpfekmfoaaGaP
import Derived.Test.YtalbgcpfekmfoaaGaM
namespace Go.Proofs.Ytalbgcpfekmfoaa
open Go Go.Vc
set_option maxHeartbeats 4000000
set_option maxRecDepth 10000
theorem addI_mem {c : List Int} {g : List VxD} {v : VxD} : (addI c g v).1.length ≤ g.length + 1 ∧ ∀ u ∈ (addI c g v).1, u ∈ g ∨ u = v := by
  unfold addI addV
  split
  · split
    · exact ⟨by simp, fun u hu => .inl hu⟩
    · split
      · exact ⟨by rw [ins_len (plc_place g v).le]; exact Nat.le_refl _, fun u hu => ins_mem.1 hu⟩
      · exact ⟨by simp, fun u hu => .inl hu⟩
  · exact ⟨by simp, fun u hu => by simp at hu⟩
theorem pastN_le {g : List VxD} {s : Nat} : (natI (idxT (pastV g s))).length ≤ g.length := by
  have := List.length_filter_le (fun j => (pastV g s).getD j false) (List.range (pastV g s).length)
  simpa [natI, idxT, past_len] using this
def c_laws_FnGraphPastKeeps : Con := ⟨0, 0, false, fun xs hs _ K => match xs with
  | [.bytes b, .bytes b2] => hs = [] ∧ b.length ≤ 9223372036854775807 ∧ b2.length ≤ 9223372036854775807 ∧ K (B true) [] []
  | _ => False⟩
theorem k_laws_FnGraphPastKeeps : Keeps' Try.prog 4 c_laws_FnGraphPastKeeps := by
  refine keeps_of_vc mix TyT_ok (cok_cons k_spec_DrawGraphAdd Try.func13 rfl rfl (cok_cons k_impl_GraphAdd Try.func14 rfl rfl (cok_cons k_spec_GraphAdd Try.func15 rfl rfl (cok_cons k_laws_sameGraph Try.func16 rfl rfl (cok_cons k_impl_GraphPast Try.func17 rfl rfl (cok_cons k_laws_sameVertex Try.func18 rfl rfl cok_nil)))))) Try.func4 rfl rfl rfl ?_
  intro aargs hs Fs K h
  simp only [c_laws_FnGraphPastKeeps] at h
  split at h
  case h_2 => exact h.elim
  rename_i b b2
  obtain ⟨rfl, hb, hb2, h⟩ := h
  repeat' (first|((conv=>whnf); (first|refine draw_plan (id := 12) [] [] (.take 0 (.take 1 (.take 2 (.take 3 (.take 4 (.take 5 (.take 6 (.take 7 (.take 8 (.take 9 (.take 10 (.take 11 (.run 12 (.take 13 .done)))))))))))))) (by kernel_rfl) (by kernel_rfl) ?_|refine draw_plan (id := 13) [] [] (.take 0 (.take 1 (.take 2 (.take 3 (.take 4 (.take 5 (.take 6 (.take 7 (.take 8 (.take 9 (.take 10 (.take 11 (.run 12 (.take 13 .done)))))))))))))) (by kernel_rfl) (by kernel_rfl) ?_|refine draw_plan (id := 19) [] [] (.take 0 (.take 1 (.take 2 (.take 3 (.take 4 (.take 5 (.take 6 (.take 7 (.take 8 (.take 9 (.take 10 (.take 11 (.take 12 (.take 13 (.run 14 (.take 15 .done)))))))))))))))) (by kernel_rfl) (by kernel_rfl) ?_|refine brK_dec (fun _=>?_) (fun _=>?_)|refine brK_ndec (fun _=>?_) (fun _=>?_)|refine brK_not (fun _=>?_) (fun _=>?_)|refine brK_in (fun _=>?_) (fun _=>?_)|refine And.intro (by first|exact rfl|exact ⟨_,rfl,rfl⟩|exact ⟨rfl,rfl,rfl⟩|exact of_decide_eq_true rfl|exact trivial|assumption|omega|(show (_ ≤ _ ∧ _ ≤ _); omega)|(simp; omega)|exact ⟨by first|omega|(simp; omega),_,rfl,rfl⟩) ?_|refine Quo.l (And.intro (by first|exact rfl|assumption|omega|(simp; omega)) ?_)|refine Quo.r (And.intro (by omega) ?_)|refine Both.mk ?_ ?_|refine Exists.intro _ (And.intro rfl ?_)|refine opt_use (by assumption) ?_|refine vrow_use (by assumption) ?_|refine vrow_in (fun _ _=>?_)|refine fun _=>?_))|exact rfl)
  · exact h
  · exact h
  rename_i h1 h2 c g x p1 p2 p3 p4
  have hgs : ∀ v ∈ g, v.p.length < 2000000 := fun v hv => Nat.lt_of_le_of_lt (p3 v hv) (by decide)
  obtain ⟨m1, m2⟩ := addI_mem (c := c) (g := g) (v := x)
  have hos : ∀ v ∈ (addI c g x).1, v.p.length < 2000000 := fun v hv => (m2 v hv).elim (hgs v) fun e => by rw [e]; omega
  obtain ⟨xr, xa, xp, xd⟩ := x
  have hol : (addI c g ⟨xr, xa, xp, xd⟩).1.length < 2000000 := by omega
  repeat' (first|((conv=>whnf); (first|refine draw_plan (id := 12) [] [] (.take 0 (.take 1 (.take 2 (.take 3 (.take 4 (.take 5 (.take 6 (.take 7 (.take 8 (.take 9 (.take 10 (.take 11 (.run 12 (.take 13 .done)))))))))))))) (by kernel_rfl) (by kernel_rfl) ?_|refine draw_plan (id := 13) [] [] (.take 0 (.take 1 (.take 2 (.take 3 (.take 4 (.take 5 (.take 6 (.take 7 (.take 8 (.take 9 (.take 10 (.take 11 (.run 12 (.take 13 .done)))))))))))))) (by kernel_rfl) (by kernel_rfl) ?_|refine draw_plan (id := 19) [] [] (.take 0 (.take 1 (.take 2 (.take 3 (.take 4 (.take 5 (.take 6 (.take 7 (.take 8 (.take 9 (.take 10 (.take 11 (.take 12 (.take 13 (.run 14 (.take 15 .done)))))))))))))))) (by kernel_rfl) (by kernel_rfl) ?_|refine Exists.intro (addI c g ⟨xr,xa,xp,xd⟩).1 (Exists.intro (addI c g ⟨xr,xa,xp,xd⟩).1 (And.intro rfl (And.intro rfl (And.intro hol (And.intro hol (And.intro hos (And.intro hos ?_)))))))|refine brK_dec (fun _=>?_) (fun _=>?_)|refine brK_ndec (fun _=>?_) (fun _=>?_)|refine brK_not (fun _=>?_) (fun _=>?_)|refine brK_in (fun _=>?_) (fun _=>?_)|refine And.intro (by first|exact rfl|exact ⟨_,rfl,rfl⟩|exact ⟨rfl,rfl,rfl⟩|exact of_decide_eq_true rfl|exact trivial|assumption|omega|(show (_ ≤ _ ∧ _ ≤ _); omega)|(simp; omega)|exact ⟨by first|omega|(simp; omega),_,rfl,rfl⟩) ?_|refine Quo.l (And.intro (by first|exact rfl|assumption|omega|(simp; omega)) ?_)|refine Quo.r (And.intro (by omega) ?_)|refine Both.mk ?_ ?_|refine Exists.intro _ (And.intro rfl ?_)|refine opt_use (by assumption) ?_|refine vrow_use (by assumption) ?_|refine vrow_in (fun _ _=>?_)|refine fun _=>?_))|exact rfl)
  · rename_i q _
    exact absurd rfl q
  · rename_i q _
    exact absurd rfl q
  · rename_i q _
    exact absurd rfl q
  · rename_i q _
    exact absurd rfl q
  · rw [decide_eq_true rfl]
    exact h
  · rename_i q
    exact absurd rfl q
  · rename_i q1 q2 q3 q4
    have hg0 : g = [] := List.eq_nil_of_length_eq_zero (by simp at q4; simp [q4])
    have e := past_alone (add_done (c := c) (g := g) (v := ⟨xr, xa, xp, xd⟩) q3) hg0
    have e2 : decide (((pastI c (addI c g ⟨xr, xa, xp, xd⟩).1 xr xa).length : Int) = 1) = true := decide_eq_true (by rw [e]; rfl)
    have h3 : K (B (decide (((pastI c (addI c g ⟨xr, xa, xp, xd⟩).1 xr xa).length : Int) = 1))) [] [] := by
      rw [e2]
      exact h
    exact h3
  rename_i q1 q2 q3 q4
  have hA := add_done (c := c) (g := g) (v := ⟨xr, xa, xp, xd⟩) q3
  have hml : (g.map VxD.row).length = g.length := by simp
  have hk1 : (b2.length : Int) % ((g.map VxD.row).length : Int) < ((g.map VxD.row).length : Int) := Int.emod_lt_of_pos _ (by omega)
  have hk0 : 0 ≤ (b2.length : Int) % ((g.map VxD.row).length : Int) := Int.emod_nonneg _ q4
  obtain ⟨v, hv⟩ : ∃ v, g[((b2.length : Int) % ((g.map VxD.row).length : Int)).toNat]? = some v := ⟨_, List.getElem?_eq_getElem (by omega)⟩
  obtain ⟨j, hj, hpx⟩ := past_same hA hv
  have eA := pastI_at hA.g0 hv
  have eB := pastI_at hA.g1 hj
  have hlen : (pastI c g v.r v.a).length = (pastI c (addI c g ⟨xr, xa, xp, xd⟩).1 v.r v.a).length := by
    rw [eA, eB, pastN_len, pastN_len, hpx]
  have hAl : (pastI c g v.r v.a).length ≤ 261 := by
    rw [eA]
    exact Nat.le_trans pastN_le p2
  have hol2 : ((addI c g ⟨xr, xa, xp, xd⟩).1.map VxD.row).length = (addI c g ⟨xr, xa, xp, xd⟩).1.length := by simp
  have fA : ∀ {i : Nat} {x : Int}, (pastI c g v.r v.a)[i]? = some x → 0 ≤ x ∧ x < ((g.map VxD.row).length : Int) ∧ ∃ u, g[x.toNat]? = some u ∧ (pastX g ((b2.length : Int) % ((g.map VxD.row).length : Int)).toNat)[i]? = some u := by
    intro i x hx
    rw [eA] at hx
    obtain ⟨t1, t2, t3⟩ := pastN_get hx
    exact ⟨t1, by omega, t3⟩
  have fB : ∀ {i : Nat} {x : Int}, (pastI c (addI c g ⟨xr, xa, xp, xd⟩).1 v.r v.a)[i]? = some x → 0 ≤ x ∧ x < (((addI c g ⟨xr, xa, xp, xd⟩).1.map VxD.row).length : Int) ∧ ∃ u, (addI c g ⟨xr, xa, xp, xd⟩).1[x.toNat]? = some u ∧ (pastX g ((b2.length : Int) % ((g.map VxD.row).length : Int)).toNat)[i]? = some u := by
    intro i x hx
    rw [eB] at hx
    obtain ⟨t1, t2, t3⟩ := pastN_get hx
    rw [← hpx] at t3
    exact ⟨t1, by omega, t3⟩
  repeat' (first|((conv=>whnf); (first|refine draw_plan (id := 12) [] [] (.take 0 (.take 1 (.take 2 (.take 3 (.take 4 (.take 5 (.take 6 (.take 7 (.take 8 (.take 9 (.take 10 (.take 11 (.run 12 (.take 13 .done)))))))))))))) (by kernel_rfl) (by kernel_rfl) ?_|refine draw_plan (id := 13) [] [] (.take 0 (.take 1 (.take 2 (.take 3 (.take 4 (.take 5 (.take 6 (.take 7 (.take 8 (.take 9 (.take 10 (.take 11 (.run 12 (.take 13 .done)))))))))))))) (by kernel_rfl) (by kernel_rfl) ?_|refine draw_plan (id := 19) [] [] (.take 0 (.take 1 (.take 2 (.take 3 (.take 4 (.take 5 (.take 6 (.take 7 (.take 8 (.take 9 (.take 10 (.take 11 (.take 12 (.take 13 (.run 14 (.take 15 .done)))))))))))))))) (by kernel_rfl) (by kernel_rfl) ?_|refine Exists.intro (addI c g ⟨xr,xa,xp,xd⟩).1 (Exists.intro (addI c g ⟨xr,xa,xp,xd⟩).1 (And.intro rfl (And.intro rfl (And.intro hol (And.intro hol (And.intro hos (And.intro hos ?_)))))))|refine brK_dec (fun _=>?_) (fun _=>?_)|refine brK_ndec (fun _=>?_) (fun _=>?_)|refine brK_not (fun _=>?_) (fun _=>?_)|refine brK_in (fun _=>?_) (fun _=>?_)|refine And.intro (by first|exact rfl|exact ⟨_,rfl,rfl⟩|exact ⟨rfl,rfl,rfl⟩|exact of_decide_eq_true rfl|exact trivial|assumption|omega|(show (_ ≤ _ ∧ _ ≤ _); omega)|(simp; omega)|exact ⟨by first|omega|(simp; omega),_,rfl,rfl⟩) ?_|refine Quo.l (And.intro (by first|exact rfl|assumption|omega|(simp; omega)) ?_)|refine Quo.r (And.intro (by omega) ?_)|refine Both.mk ?_ ?_|refine Exists.intro _ (And.intro rfl ?_)|refine opt_use (by assumption) ?_|refine vrow_use (by assumption) ?_|refine vrow_in (fun _ _=>?_)|refine fun _=>?_))|exact rfl)
  · rename_i q5
    exact absurd (congrArg Int.ofNat hlen) q5
  rename_i q5
  refine loop_in (ι := Nat) (fun i => mkS 135 [(4, B false), (6, .sl 4 (g.map VxD.row)), (8, .own 0), (13, .own 1), (14, .own 2), (15, I i)] [.arr 4 ((addI c g ⟨xr, xa, xp, xd⟩).1.map VxD.row), .iarr (pastI c g v.r v.a), .iarr (pastI c (addI c g ⟨xr, xa, xp, xd⟩).1 v.r v.a)] Fs) (fun i => i ≤ (pastI c g v.r v.a).length) (fun i => (pastI c g v.r v.a).length - i) 0 [1, 3, 4] (Nat.zero_le _) ?_ ?_
  · repeat' (first|((conv=>whnf); (first|refine Exists.intro (addI c g ⟨xr,xa,xp,xd⟩).1 (Exists.intro (addI c g ⟨xr,xa,xp,xd⟩).1 (And.intro rfl (And.intro rfl (And.intro hol (And.intro hol (And.intro hos (And.intro hos ?_)))))))|refine brK_dec (fun _=>?_) (fun _=>?_)|refine brK_ndec (fun _=>?_) (fun _=>?_)|refine brK_not (fun _=>?_) (fun _=>?_)|refine brK_in (fun _=>?_) (fun _=>?_)|refine And.intro (by first|exact rfl|exact ⟨_,rfl,rfl⟩|exact ⟨rfl,rfl,rfl⟩|exact of_decide_eq_true rfl|exact trivial|assumption|omega|(show (_ ≤ _ ∧ _ ≤ _); omega)|(simp; omega)|exact ⟨by first|omega|(simp; omega),_,rfl,rfl⟩) ?_|refine Quo.l (And.intro (by first|exact rfl|assumption|omega|(simp; omega)) ?_)|refine Quo.r (And.intro (by omega) ?_)|refine Both.mk ?_ ?_|refine Exists.intro _ (And.intro rfl ?_)|refine opt_use (by assumption) ?_|refine vrow_use (by assumption) ?_|refine vrow_in (fun _ _=>?_)|refine fun _=>?_))|exact rfl)
  intro i hi
  repeat' (first|((conv=>whnf); (first|refine draw_plan (id := 12) [] [] (.take 0 (.take 1 (.take 2 (.take 3 (.take 4 (.take 5 (.take 6 (.take 7 (.take 8 (.take 9 (.take 10 (.take 11 (.run 12 (.take 13 .done)))))))))))))) (by kernel_rfl) (by kernel_rfl) ?_|refine draw_plan (id := 13) [] [] (.take 0 (.take 1 (.take 2 (.take 3 (.take 4 (.take 5 (.take 6 (.take 7 (.take 8 (.take 9 (.take 10 (.take 11 (.run 12 (.take 13 .done)))))))))))))) (by kernel_rfl) (by kernel_rfl) ?_|refine draw_plan (id := 19) [] [] (.take 0 (.take 1 (.take 2 (.take 3 (.take 4 (.take 5 (.take 6 (.take 7 (.take 8 (.take 9 (.take 10 (.take 11 (.take 12 (.take 13 (.run 14 (.take 15 .done)))))))))))))))) (by kernel_rfl) (by kernel_rfl) ?_|refine Exists.intro (addI c g ⟨xr,xa,xp,xd⟩).1 (Exists.intro (addI c g ⟨xr,xa,xp,xd⟩).1 (And.intro rfl (And.intro rfl (And.intro hol (And.intro hol (And.intro hos (And.intro hos ?_)))))))|refine brK_dec (fun _=>?_) (fun _=>?_)|refine brK_ndec (fun _=>?_) (fun _=>?_)|refine brK_not (fun _=>?_) (fun _=>?_)|refine brK_in (fun _=>?_) (fun _=>?_)|refine And.intro (by first|exact rfl|exact (by first|exact (fA (by assumption)).1|exact (fA (by assumption)).2.1|exact (fB (by assumption)).1|exact (fB (by assumption)).2.1|exact ⟨(fB (by assumption)).2.1,_,rfl,rfl⟩)|exact ⟨_,rfl,rfl⟩|exact ⟨rfl,rfl,rfl⟩|exact of_decide_eq_true rfl|exact trivial|assumption|omega|(show (_ ≤ _ ∧ _ ≤ _); omega)|(simp; omega)|exact ⟨by first|omega|(simp; omega),_,rfl,rfl⟩) ?_|refine Quo.l (And.intro (by first|exact rfl|exact (by first|exact (fA (by assumption)).1|exact (fA (by assumption)).2.1|exact (fB (by assumption)).1|exact (fB (by assumption)).2.1|exact ⟨(fB (by assumption)).2.1,_,rfl,rfl⟩)|assumption|omega|(simp; omega)) ?_)|refine Quo.r (And.intro (by omega) ?_)|refine Both.mk ?_ ?_|refine Exists.intro _ (And.intro rfl ?_)|refine opt_use (by assumption) ?_|refine vrow_use (by assumption) ?_|refine vrow_in (fun _ _=>?_)|refine fun _=>?_))|exact rfl)
  · rename_i hil x hx u hu y hy w hw
    have hu : g[x.toNat]? = some u := hu
    have hw : (addI c g ⟨xr, xa, xp, xd⟩).1[y.toNat]? = some w := hw
    obtain ⟨-, -, u1, a1, a2⟩ := fA hx
    obtain ⟨-, -, w1, b1, b2⟩ := fB hy
    have euw : u = w := by
      rw [hu] at a1
      rw [hw] at b1
      cases a1
      cases b1
      exact Option.some.inj (a2.symm.trans b2)
    subst euw
    have hpu := hgs u (List.mem_of_getElem? hu)
    repeat' (first|((conv=>whnf); (first|refine draw_plan (id := 12) [] [] (.take 0 (.take 1 (.take 2 (.take 3 (.take 4 (.take 5 (.take 6 (.take 7 (.take 8 (.take 9 (.take 10 (.take 11 (.run 12 (.take 13 .done)))))))))))))) (by kernel_rfl) (by kernel_rfl) ?_|refine draw_plan (id := 13) [] [] (.take 0 (.take 1 (.take 2 (.take 3 (.take 4 (.take 5 (.take 6 (.take 7 (.take 8 (.take 9 (.take 10 (.take 11 (.run 12 (.take 13 .done)))))))))))))) (by kernel_rfl) (by kernel_rfl) ?_|refine draw_plan (id := 19) [] [] (.take 0 (.take 1 (.take 2 (.take 3 (.take 4 (.take 5 (.take 6 (.take 7 (.take 8 (.take 9 (.take 10 (.take 11 (.take 12 (.take 13 (.run 14 (.take 15 .done)))))))))))))))) (by kernel_rfl) (by kernel_rfl) ?_|refine Exists.intro (addI c g ⟨xr,xa,xp,xd⟩).1 (Exists.intro (addI c g ⟨xr,xa,xp,xd⟩).1 (And.intro rfl (And.intro rfl (And.intro hol (And.intro hol (And.intro hos (And.intro hos ?_)))))))|refine brK_dec (fun _=>?_) (fun _=>?_)|refine brK_ndec (fun _=>?_) (fun _=>?_)|refine brK_not (fun _=>?_) (fun _=>?_)|refine brK_in (fun _=>?_) (fun _=>?_)|refine And.intro (by first|exact rfl|exact ⟨_,rfl,rfl⟩|exact ⟨rfl,rfl,rfl⟩|exact of_decide_eq_true rfl|exact trivial|assumption|omega|(show (_ ≤ _ ∧ _ ≤ _); omega)|(simp; omega)|exact ⟨by first|omega|(simp; omega),_,rfl,rfl⟩) ?_|refine Quo.l (And.intro (by first|exact rfl|assumption|omega|(simp; omega)) ?_)|refine Quo.r (And.intro (by omega) ?_)|refine Both.mk ?_ ?_|refine Exists.intro _ (And.intro rfl ?_)|refine opt_use (by assumption) ?_|refine vrow_use (by assumption) ?_|refine vrow_in (fun _ _=>?_)|refine fun _=>?_))|exact rfl)
    · rename_i q6
      exact absurd rfl q6
    refine ⟨i + 1, [0, 1, 2], by omega, by omega, ?_⟩
    repeat' (first|((conv=>whnf); (first|refine Exists.intro (addI c g ⟨xr,xa,xp,xd⟩).1 (Exists.intro (addI c g ⟨xr,xa,xp,xd⟩).1 (And.intro rfl (And.intro rfl (And.intro hol (And.intro hol (And.intro hos (And.intro hos ?_)))))))|refine brK_dec (fun _=>?_) (fun _=>?_)|refine brK_ndec (fun _=>?_) (fun _=>?_)|refine brK_not (fun _=>?_) (fun _=>?_)|refine brK_in (fun _=>?_) (fun _=>?_)|refine And.intro (by first|exact rfl|exact ⟨_,rfl,rfl⟩|exact ⟨rfl,rfl,rfl⟩|exact of_decide_eq_true rfl|exact trivial|assumption|omega|(show (_ ≤ _ ∧ _ ≤ _); omega)|(simp; omega)|exact ⟨by first|omega|(simp; omega),_,rfl,rfl⟩) ?_|refine Quo.l (And.intro (by first|exact rfl|assumption|omega|(simp; omega)) ?_)|refine Quo.r (And.intro (by omega) ?_)|refine Both.mk ?_ ?_|refine Exists.intro _ (And.intro rfl ?_)|refine opt_use (by assumption) ?_|refine vrow_use (by assumption) ?_|refine vrow_in (fun _ _=>?_)|refine fun _=>?_))|exact rfl)
  · exact h
end Go.Proofs.Ytalbgcpfekmfoaa
