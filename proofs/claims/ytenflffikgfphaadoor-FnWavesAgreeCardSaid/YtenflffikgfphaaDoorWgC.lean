/-
What a vertex depends on, by the reference.
No conditions.
-/
import Derived.Test.YtenflffikgfphaaDoorWgB
namespace Go.Proofs.YtenflffikgfphaaDoor
open Go Go.Vc
set_option maxHeartbeats 2000000
set_option maxRecDepth 10000
theorem rep_in {α : Type} {n i : Nat} {r : α} {P : α → Prop} (h : P r) : ∀ e, (List.replicate n r)[i]? = some e → P e := by
  intro e he
  rw [List.getElem?_replicate] at he
  split at he
  · cases he; exact h
  · cases he
theorem bool_set0 {n s : Nat} {x : Bool} : boolRows ((List.replicate n false).set s x) = (List.replicate n [B false]).set s [B x] := by
  rw [← brow_set, boolRows, List.map_replicate]
theorem set_is {b : List Bool} {k j : Nat} (h : j < b.length) (e : j = k) : (b.set k true)[j]? = some true := by
  subst e
  simp [h]
/-- The marks while vertex n's parents are looked at: those of the first k. -/
structure Dwk (g : List VxD) (s : Nat) (b : List Bool) (n k : Nat) (v : VxD) : Prop where
  dwn : Dwn g s b (n + 1)
  at_ : g[n]? = some v
  mark : ∀ (j : Nat) x i, j < k → v.p[j]? = some x → findV g (v.r - 1) x = some i → b[i]? = some true
theorem dwk_end {g : List VxD} {s : Nat} {b : List Bool} {n k : Nat} {v : VxD} (h : Dwk g s b n k v) (hk : v.p.length ≤ k ∨ b[n]? = some false) : Dwn g s b n := by
  refine dwn_next h.dwn fun hn j hj => ?_
  rcases hk with hk | hk
  · unfold parI at hj
    rw [h.at_] at hj
    obtain ⟨x, hx, hf⟩ := List.mem_filterMap.1 hj
    obtain ⟨i, hi⟩ := List.mem_iff_getElem?.1 hx
    exact h.mark i x j (by have := (List.getElem?_eq_some_iff.1 hi).1; omega) hi hf
  · rw [hn] at hk
    cases hk
theorem dwk_next {g : List VxD} (hs : sortedV g) {s : Nat} {b : List Bool} {n k i : Nat} {v : VxD} {x : Int} (h : Dwk g s b n k v) (hn : b[n]? = some true) (hx : v.p[k]? = some x) (hf : findV g (v.r - 1) x = some i) : Dwk g s (b.set i true) n (k + 1) v := by
  have hj : i ∈ parI g n := par_mem h.at_ (List.mem_of_getElem? hx) hf
  refine ⟨dwn_mark hs h.dwn hn hj, h.at_, fun j y m hjk hy hm => ?_⟩
  rcases Nat.lt_or_ge j k with h1 | h1
  · exact set_true (h.mark j y m h1 hy hm)
  · obtain rfl : j = k := by omega
    rw [hx] at hy
    cases hy
    rw [hf] at hm
    cases hm
    obtain ⟨u, hu, _⟩ := find_out hf
    exact set_is (by rw [h.dwn.len]; exact (List.getElem?_eq_some_iff.1 hu).1) rfl
theorem dwn_zero {g : List VxD} {s : Nat} {b : List Bool} (h : Dwn g s b 0) : b = pastV g s := dwn_done h
noncomputable def pastO (g : List VxD) (o : Option Nat) : List Bool := match o with
  | some s => pastV g s
  | none => List.replicate g.length false
def optI : Option Nat → Int
  | some s => s
  | none => -1
def c_spec_l11Past : Con := ⟨1, 0, true, fun xs hs _ K => match xs with
  | [.sl 4 rows, .val (.int .i64 w)] => hs = [] ∧ ∃ g : List VxD, rows = g.map VxD.row ∧ ∃ c, gV c g = true ∧ g.length < 2000000 ∧ (∀ v ∈ g, v.p.length < 2000000) ∧ ∃ o : Option Nat, w = optI o ∧ (∀ s, o = some s → s < g.length) ∧ K (.own 0) [.arr 1 (boolRows (pastO g o))] []
  | _ => False⟩
theorem bool_zero (n : Nat) : boolRows (List.replicate n false) = List.replicate n [B false] := by simp [boolRows]
theorem k_spec_l11Past : Keeps' Tryd.prog 46 c_spec_l11Past := by
  refine keeps_of_vc mix TyT_ok (cok_cons k_spec_l11Find Tryd.func53 rfl rfl cok_nil) Tryd.func46 rfl rfl rfl ?_
  intro aargs hs Fs K h
  simp only [c_spec_l11Past] at h
  split at h
  case h_2 => exact h.elim
  rename_i rows w
  obtain ⟨rfl, g, rfl, c, hv, hg, hp, o, rfl, ho, h⟩ := h
  have hlen : (g.map VxD.row).length = g.length := by simp
  have hs := gV_sorted hv
  have hpar := (gV_ok hv).par
  have hrr : ∀ v ∈ g, -9000000000000000000 ≤ v.r ∧ v.r ≤ 9000000000000000000 := fun v hm => by
    obtain ⟨i, hi⟩ := List.mem_iff_getElem?.1 hm
    exact vx_small (gV_cell hv hi).1
  cases o with
  | none =>
    have e : optI none = -1 := rfl
    rw [e]
    repeat' (first
      | ((conv => whnf); (first
        | refine brK_dec (fun _ => ?_) (fun _ => ?_)
        | refine brK_ndec (fun _ => ?_) (fun _ => ?_)
        | refine brK_not (fun _ => ?_) (fun _ => ?_)
        | refine brK_in (fun _ => ?_) (fun _ => ?_)
        | refine And.intro (by first | exact rfl | exact (by simp; omega) | exact ⟨_, rfl, rfl⟩ | exact ⟨rfl, rfl, rfl⟩ | exact of_decide_eq_true rfl | exact trivial | assumption | omega | (show (_ ≤ _ ∧ _ ≤ _); omega) | (simp; omega) | exact ⟨by first | omega | (simp; omega), _, rfl, rfl⟩) ?_
        | refine Both.mk ?_ ?_
        | refine Exists.intro _ (And.intro rfl ?_)
        | refine rep_in ?_
        | refine opt_use (by assumption) ?_
        | refine vrow_use (by assumption) ?_
        | refine vrow_in (fun _ _ => ?_)
        | refine brow_use (by assumption) ?_
        | refine brow_in (fun _ _ => ?_)
        | refine fun _ => ?_))
      | exact rfl)
    rw [show pastO g none = List.replicate g.length false from rfl, bool_zero] at h
    have e2 : (((g.map VxD.row).length : Int)).toNat = g.length := by simp
    rw [← e2] at h
    exact h
  | some s =>
    have hsl := ho s rfl
    have e : optI (some s) = s := rfl
    rw [e]
    repeat' (first
      | ((conv => whnf); (first
        | refine brK_dec (fun _ => ?_) (fun _ => ?_)
        | refine brK_ndec (fun _ => ?_) (fun _ => ?_)
        | refine brK_not (fun _ => ?_) (fun _ => ?_)
        | refine brK_in (fun _ => ?_) (fun _ => ?_)
        | refine And.intro (by first | exact rfl | exact (by simp; omega) | exact ⟨_, rfl, rfl⟩ | exact ⟨rfl, rfl, rfl⟩ | exact of_decide_eq_true rfl | exact trivial | assumption | omega | (show (_ ≤ _ ∧ _ ≤ _); omega) | (simp; omega) | exact ⟨by first | omega | (simp; omega), _, rfl, rfl⟩) ?_
        | refine Both.mk ?_ ?_
        | refine Exists.intro _ (And.intro rfl ?_)
        | refine rep_in ?_
        | refine opt_use (by assumption) ?_
        | refine vrow_use (by assumption) ?_
        | refine vrow_in (fun _ _ => ?_)
        | refine brow_use (by assumption) ?_
        | refine brow_in (fun _ _ => ?_)
        | refine fun _ => ?_))
      | exact rfl)
    refine loop_in (ι := Nat × List Bool) (fun q => mkS 57 [(0, .sl 4 (g.map VxD.row)), (1, I s), (4, .val (.slice none 0 0)), (5, .own 0), (6, I ((q.1 : Int) - 1))] [.arr 1 (boolRows q.2)] Fs)
      (fun q => q.1 ≤ g.length ∧ Dwn g s q.2 q.1) (fun q => q.1) (s + 1, (List.replicate g.length false).set s true) [0] ⟨by omega, dwn_start hs hsl⟩ ?_ ?_
    · repeat' (first
        | ((conv => whnf); (first
          | refine brK_dec (fun _ => ?_) (fun _ => ?_)
          | refine brK_ndec (fun _ => ?_) (fun _ => ?_)
          | refine brK_not (fun _ => ?_) (fun _ => ?_)
          | refine brK_in (fun _ => ?_) (fun _ => ?_)
          | refine And.intro (by first | exact rfl | exact (by rw [bool_set0]; simp; rfl) | exact ⟨_, rfl, rfl⟩ | exact ⟨rfl, rfl, rfl⟩ | exact of_decide_eq_true rfl | exact trivial | assumption | omega | (show (_ ≤ _ ∧ _ ≤ _); omega) | (simp; omega) | exact ⟨by first | omega | (simp; omega), _, rfl, rfl⟩) ?_
          | refine Both.mk ?_ ?_
          | refine Exists.intro _ (And.intro rfl ?_)
          | refine rep_in ?_
          | refine opt_use (by assumption) ?_
          | refine vrow_use (by assumption) ?_
          | refine vrow_in (fun _ _ => ?_)
          | refine brow_use (by assumption) ?_
          | refine brow_in (fun _ _ => ?_)
          | refine fun _ => ?_))
        | exact rfl)
    rintro ⟨n, b⟩ ⟨hn, hd⟩
    dsimp only at hn hd ⊢
    repeat' (first
      | ((conv => whnf); (first
        | refine brK_dec (fun _ => ?_) (fun _ => ?_)
        | refine brK_ndec (fun _ => ?_) (fun _ => ?_)
        | refine brK_not (fun _ => ?_) (fun _ => ?_)
        | refine brK_in (fun _ => ?_) (fun _ => ?_)
        | refine And.intro (by first | exact rfl | exact ⟨_, rfl, rfl⟩ | exact ⟨rfl, rfl, rfl⟩ | exact of_decide_eq_true rfl | exact trivial | assumption | omega | (show (_ ≤ _ ∧ _ ≤ _); omega) | (simp; omega) | exact ⟨by first | omega | (simp; omega), _, rfl, rfl⟩) ?_
        | refine Both.mk ?_ ?_
        | refine Exists.intro _ (And.intro rfl ?_)
        | refine rep_in ?_
        | refine opt_use (by assumption) ?_
        | refine vrow_use (by assumption) ?_
        | refine vrow_in (fun _ _ => ?_)
        | refine brow_use (by assumption) ?_
        | refine brow_in (fun _ _ => ?_)
        | refine fun _ => ?_))
      | exact rfl)
    · rename_i hn0
      obtain ⟨m, rfl⟩ : ∃ m, n = m + 1 := ⟨n - 1, by omega⟩
      obtain ⟨v, hv⟩ : ∃ v, g[m]? = some v := ⟨g[m]'(by omega), List.getElem?_eq_getElem (by omega)⟩
      have hv1 : g[(((m + 1 : Nat) : Int) - 1).toNat]? = some v := by rw [show (((m + 1 : Nat) : Int) - 1).toNat = m by omega]; exact hv
      have hvm := List.mem_of_getElem? hv
      have hpl := hp v hvm
      have hvr := hrr v hvm
      refine loop_in (ι := Nat × List Bool) (fun q => mkS 57 [(0, .sl 4 (g.map VxD.row)), (1, I s), (4, .val (.slice none 0 0)), (5, .own 0), (6, I (((m + 1 : Nat) : Int) - 1)), (7, I q.1)] [.arr 1 (boolRows q.2)] Fs)
        (fun q => q.1 ≤ v.p.length ∧ Dwk g s q.2 m q.1 v) (fun q => v.p.length - q.1) (0, b) [0] ⟨by omega, hd, hv, fun j x i hj => absurd hj (by omega)⟩ ?_ ?_
      · repeat' (first
          | ((conv => whnf); (first
            | refine brK_dec (fun _ => ?_) (fun _ => ?_)
            | refine brK_ndec (fun _ => ?_) (fun _ => ?_)
            | refine brK_not (fun _ => ?_) (fun _ => ?_)
            | refine brK_in (fun _ => ?_) (fun _ => ?_)
            | refine And.intro (by first | exact rfl | exact ⟨_, rfl, rfl⟩ | exact ⟨rfl, rfl, rfl⟩ | exact of_decide_eq_true rfl | exact trivial | assumption | omega | (show (_ ≤ _ ∧ _ ≤ _); omega) | (simp; omega) | exact ⟨by first | omega | (simp; omega), _, rfl, rfl⟩) ?_
            | refine Both.mk ?_ ?_
            | refine Exists.intro _ (And.intro rfl ?_)
            | refine rep_in ?_
            | refine opt_use (by assumption) ?_
            | refine vrow_use (by assumption) ?_
            | refine vrow_in (fun _ _ => ?_)
            | refine brow_use (by assumption) ?_
            | refine brow_in (fun _ _ => ?_)
            | refine fun _ => ?_))
          | exact rfl)
      rintro ⟨k, b⟩ ⟨hk, hw⟩
      dsimp only at hk hw ⊢
      have hbl := hw.dwn.len
      have hlb : (boolRows b).length = g.length := by simp [hbl]
      repeat' (first
        | ((conv => whnf); (first
          | refine draw_plan (id := 11) [] [18] (.take 0 (.take 1 (.take 2 (.take 3 (.take 4 (.take 5 (.take 6 (.take 7 (.take 8 (.take 9 (.take 10 (.take 11 (.take 12 (.take 13 (.take 14 (.take 15 (.run 16 (.take 17 (.run 18 .done))))))))))))))))))) (by kernel_rfl) (by kernel_rfl) ?_
          | refine brK_dec (fun _ => ?_) (fun _ => ?_)
          | refine brK_ndec (fun _ => ?_) (fun _ => ?_)
          | refine brK_not (fun _ => ?_) (fun _ => ?_)
          | refine brK_in (fun _ => ?_) (fun _ => ?_)
          | refine And.intro (by first | exact rfl | exact ⟨_, rfl, rfl⟩ | exact ⟨rfl, rfl, rfl⟩ | exact of_decide_eq_true rfl | exact trivial | assumption | omega | (show (_ ≤ _ ∧ _ ≤ _); omega) | (simp; omega) | exact ⟨by first | omega | (simp; omega), _, rfl, rfl⟩) ?_
          | refine Both.mk ?_ ?_
          | refine Exists.intro _ (And.intro rfl ?_)
          | refine rep_in ?_
          | refine opt_use (by assumption) ?_
          | refine vrow_use (by assumption) ?_
          | refine vrow_in (fun _ _ => ?_)
          | refine brow_use (by assumption) ?_
          | refine brow_in (fun _ _ => ?_)
          | refine fun _ => ?_))
        | exact rfl)
      · rename_i h0 y hy e1 x hx
        have hy : b[m]? = some y := by rw [show m = (((m + 1 : Nat) : Int) - 1).toNat by omega]; exact hy
        have hx : v.p[k]? = some x := hx
        obtain ⟨j, hj⟩ := (hpar v hvm).2.2 x (List.mem_of_getElem? hx)
        obtain ⟨u, hu, _⟩ := find_out hj
        have hjl : j < g.length := (List.getElem?_eq_some_iff.1 hu).1
        rw [fnd_some hj]
        repeat' (first
          | ((conv => whnf); (first
            | refine brK_dec (fun _ => ?_) (fun _ => ?_)
            | refine brK_ndec (fun _ => ?_) (fun _ => ?_)
            | refine brK_not (fun _ => ?_) (fun _ => ?_)
            | refine brK_in (fun _ => ?_) (fun _ => ?_)
            | refine And.intro (by first | exact rfl | exact ⟨_, rfl, rfl⟩ | exact ⟨rfl, rfl, rfl⟩ | exact of_decide_eq_true rfl | exact trivial | assumption | omega | (show (_ ≤ _ ∧ _ ≤ _); omega) | (simp; omega) | exact ⟨by first | omega | (simp; omega), _, rfl, rfl⟩) ?_
            | refine Both.mk ?_ ?_
            | refine Exists.intro _ (And.intro rfl ?_)
            | refine rep_in ?_
            | refine opt_use (by assumption) ?_
            | refine vrow_use (by assumption) ?_
            | refine vrow_in (fun _ _ => ?_)
            | refine brow_use (by assumption) ?_
            | refine brow_in (fun _ _ => ?_)
            | refine fun _ => ?_))
          | exact rfl)
        refine ⟨(k + 1, b.set j true), [0], ⟨by dsimp only; omega, dwk_next hs hw (by rw [hy, e1]) hx hj⟩, by dsimp only; omega, ?_⟩
        repeat' (first
          | ((conv => whnf); (first
            | refine brK_dec (fun _ => ?_) (fun _ => ?_)
            | refine brK_ndec (fun _ => ?_) (fun _ => ?_)
            | refine brK_not (fun _ => ?_) (fun _ => ?_)
            | refine brK_in (fun _ => ?_) (fun _ => ?_)
            | refine And.intro (by first | exact rfl | exact (by rw [← brow_set]; simp; rfl) | exact ⟨_, rfl, rfl⟩ | exact ⟨rfl, rfl, rfl⟩ | exact of_decide_eq_true rfl | exact trivial | assumption | omega | (show (_ ≤ _ ∧ _ ≤ _); omega) | (simp; omega) | exact ⟨by first | omega | (simp; omega), _, rfl, rfl⟩) ?_
            | refine Both.mk ?_ ?_
            | refine Exists.intro _ (And.intro rfl ?_)
            | refine rep_in ?_
            | refine opt_use (by assumption) ?_
            | refine vrow_use (by assumption) ?_
            | refine vrow_in (fun _ _ => ?_)
            | refine brow_use (by assumption) ?_
            | refine brow_in (fun _ _ => ?_)
            | refine fun _ => ?_))
          | exact rfl)
      · rename_i h0 y hy e1
        have hy : b[m]? = some y := by rw [show m = (((m + 1 : Nat) : Int) - 1).toNat by omega]; exact hy
        refine ⟨(m, b), [0], ⟨by dsimp only; omega, dwk_end hw (.inr (by rw [hy, e1]))⟩, by dsimp only; omega, ?_⟩
        repeat' (first
          | ((conv => whnf); (first
            | refine brK_dec (fun _ => ?_) (fun _ => ?_)
            | refine brK_ndec (fun _ => ?_) (fun _ => ?_)
            | refine brK_not (fun _ => ?_) (fun _ => ?_)
            | refine brK_in (fun _ => ?_) (fun _ => ?_)
            | refine And.intro (by first | exact rfl | exact ⟨_, rfl, rfl⟩ | exact ⟨rfl, rfl, rfl⟩ | exact of_decide_eq_true rfl | exact trivial | assumption | omega | (show (_ ≤ _ ∧ _ ≤ _); omega) | (simp; omega) | exact ⟨by first | omega | (simp; omega), _, rfl, rfl⟩) ?_
            | refine Both.mk ?_ ?_
            | refine Exists.intro _ (And.intro rfl ?_)
            | refine rep_in ?_
            | refine opt_use (by assumption) ?_
            | refine vrow_use (by assumption) ?_
            | refine vrow_in (fun _ _ => ?_)
            | refine brow_use (by assumption) ?_
            | refine brow_in (fun _ _ => ?_)
            | refine fun _ => ?_))
          | exact rfl)
      · rename_i h0
        refine ⟨(m, b), [0], ⟨by dsimp only; omega, dwk_end hw (.inl (by omega))⟩, by dsimp only; omega, ?_⟩
        repeat' (first
          | ((conv => whnf); (first
            | refine brK_dec (fun _ => ?_) (fun _ => ?_)
            | refine brK_ndec (fun _ => ?_) (fun _ => ?_)
            | refine brK_not (fun _ => ?_) (fun _ => ?_)
            | refine brK_in (fun _ => ?_) (fun _ => ?_)
            | refine And.intro (by first | exact rfl | exact ⟨_, rfl, rfl⟩ | exact ⟨rfl, rfl, rfl⟩ | exact of_decide_eq_true rfl | exact trivial | assumption | omega | (show (_ ≤ _ ∧ _ ≤ _); omega) | (simp; omega) | exact ⟨by first | omega | (simp; omega), _, rfl, rfl⟩) ?_
            | refine Both.mk ?_ ?_
            | refine Exists.intro _ (And.intro rfl ?_)
            | refine rep_in ?_
            | refine opt_use (by assumption) ?_
            | refine vrow_use (by assumption) ?_
            | refine vrow_in (fun _ _ => ?_)
            | refine brow_use (by assumption) ?_
            | refine brow_in (fun _ _ => ?_)
            | refine fun _ => ?_))
          | exact rfl)
    · rename_i hn0
      obtain rfl : n = 0 := by omega
      rw [dwn_zero hd]
      exact h
end Go.Proofs.YtenflffikgfphaaDoor
