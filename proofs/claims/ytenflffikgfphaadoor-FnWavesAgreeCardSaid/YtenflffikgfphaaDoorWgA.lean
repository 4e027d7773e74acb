/-
Graphs, by the reference: places, parents, valid graphs.
No conditions.
-/
import Derived.Test.YtenflffikgfphaaDoorGvP
namespace Go.Proofs.YtenflffikgfphaaDoor
open Go Go.Vc
set_option maxHeartbeats 1000000
set_option maxRecDepth 10000
theorem vrow_in {g : List VxD} {n : Nat} {P : List AV → Prop} (h : ∀ v, g[n]? = some v → P v.row) : ∀ e, (g.map VxD.row)[n]? = some e → P e := by
  intro e he
  rw [List.getElem?_map] at he
  obtain ⟨v, hv, rfl⟩ := Option.map_eq_some_iff.1 he
  exact h v hv
theorem vrow_use {g : List VxD} {n : Nat} {v : VxD} {P : List AV → Prop} (hv : g[n]? = some v) (h : P v.row) : ∀ e, (g.map VxD.row)[n]? = some e → P e :=
  vrow_in fun u hu => by
    rw [hv] at hu
    cases hu
    exact h
theorem opt_use {α : Type} {l : List α} {n : Nat} {v : α} {P : α → Prop} (hv : l[n]? = some v) (h : P v) : ∀ x, l[n]? = some x → P x := fun x hx => by
  rw [hv] at hx
  cases hx
  exact h
def fndI (g : List VxD) (r a : Int) : Int := match findV g r a with
  | some i => i
  | none => -1
theorem fnd_some {g : List VxD} {r a : Int} {i : Nat} (h : findV g r a = some i) : fndI g r a = i := by rw [fndI, h]
theorem fnd_none {g : List VxD} {r a : Int} (h : findV g r a = none) : fndI g r a = -1 := by rw [fndI, h]
theorem fnd_cases (g : List VxD) (r a : Int) : (∃ i, findV g r a = some i ∧ fndI g r a = (i : Int) ∧ i < g.length) ∨ (findV g r a = none ∧ fndI g r a = -1) := by
  cases h : findV g r a with
  | none => exact .inr ⟨rfl, fnd_none h⟩
  | some i =>
    obtain ⟨v, hv, _⟩ := find_out h
    exact .inl ⟨i, rfl, fnd_some h, (List.getElem?_eq_some_iff.1 hv).1⟩
theorem find_is : ∀ {g : List VxD} {r a : Int} {i : Nat} {v : VxD}, g[i]? = some v → v.r = r → v.a = a → (∀ j, j < i → ∀ u, g[j]? = some u → ¬ (u.r = r ∧ u.a = a)) → findV g r a = some i
  | [], _, _, _, _, h, _, _, _ => by simp at h
  | x :: g, r, a, 0, v, h, h1, h2, _ => by
    simp at h
    subst h
    unfold findV
    rw [if_pos ⟨h1, h2⟩]
  | x :: g, r, a, i + 1, v, h, h1, h2, hn => by
    unfold findV
    rw [if_neg (hn 0 (by omega) x rfl), find_is (g := g) (i := i) (by simpa using h) h1 h2 fun j hj u hu => hn (j + 1) (by omega) u (by simpa using hu)]
    rfl
theorem find_non : ∀ {g : List VxD} {r a : Int}, (∀ j, j < g.length → ∀ u, g[j]? = some u → ¬ (u.r = r ∧ u.a = a)) → findV g r a = none
  | [], _, _, _ => rfl
  | x :: g, r, a, hn => by
    unfold findV
    rw [if_neg (hn 0 (by simp) x rfl), find_non (g := g) fun j hj u hu => hn (j + 1) (by simpa using hj) u (by simpa using hu)]
    rfl
def c_spec_l11Before : Con := ⟨0, 0, false, fun xs hs _ K => match xs with
  | [.agg [.val (.int .i64 r), .val (.int .i64 a), .ints p, .val (.int .i64 d)], .agg [.val (.int .i64 r'), .val (.int .i64 a'), .ints p', .val (.int .i64 d')]] => hs = [] ∧ K (B (ltB ⟨r, a, p, d⟩ ⟨r', a', p', d'⟩)) [] []
  | _ => False⟩
theorem k_spec_l11Before : Keeps' Tryd.prog 30 c_spec_l11Before := by
  refine keeps_of_vc mix TyT_ok cok_nil Tryd.func30 rfl rfl rfl ?_
  intro aargs hs Fs K h
  simp only [c_spec_l11Before] at h
  split at h
  case h_2 => exact h.elim
  rename_i r a p d r' a' p' d'
  obtain ⟨rfl, h⟩ := h
  simp only [ltB] at h
  repeat' (first
    | ((conv => whnf); (first
      | refine brK_dec (fun _ => ?_) (fun _ => ?_)
      | refine brK_ndec (fun _ => ?_) (fun _ => ?_)
      | refine brK_not (fun _ => ?_) (fun _ => ?_)
      | refine brK_in (fun _ => ?_) (fun _ => ?_)
      | refine And.intro (by first | exact rfl | exact ⟨_, rfl, rfl⟩ | exact ⟨rfl, rfl, rfl⟩ | exact of_decide_eq_true rfl | exact trivial | assumption | omega | (show (_ ≤ _ ∧ _ ≤ _); omega) | (simp; omega) | exact ⟨by first | omega | (simp; omega), _, rfl, rfl⟩) ?_
      | refine Both.mk ?_ ?_
      | refine Exists.intro _ (And.intro rfl ?_)
      | refine opt_use (by assumption) ?_
      | refine vrow_use (by assumption) ?_
      | refine vrow_in (fun _ _ => ?_)
      | refine fun _ => ?_))
    | exact rfl)
  · rename_i h1
    rw [decide_eq_true h1] at h
    exact h
  · rename_i h1 h2
    rw [decide_eq_false h1, decide_eq_true h2] at h
    exact h
  · rename_i h1 h2
    rw [decide_eq_false h1, decide_eq_false h2] at h
    exact h
def c_spec_l11Find : Con := ⟨0, 0, false, fun xs hs _ K => match xs with
  | [.sl 4 rows, .val (.int .i64 r), .val (.int .i64 a)] => hs = [] ∧ ∃ g : List VxD, rows = g.map VxD.row ∧ g.length < 2000000 ∧ K (I (fndI g r a)) [] []
  | _ => False⟩
theorem k_spec_l11Find : Keeps' Tryd.prog 53 c_spec_l11Find := by
  refine keeps_of_vc mix TyT_ok cok_nil Tryd.func53 rfl rfl rfl ?_
  intro aargs hs Fs K h
  simp only [c_spec_l11Find] at h
  split at h
  case h_2 => exact h.elim
  rename_i rows r a
  obtain ⟨rfl, g, rfl, hg, h⟩ := h
  have hlen : (g.map VxD.row).length = g.length := by simp
  repeat' (first
    | ((conv => whnf); (first
      | refine brK_dec (fun _ => ?_) (fun _ => ?_)
      | refine brK_ndec (fun _ => ?_) (fun _ => ?_)
      | refine brK_not (fun _ => ?_) (fun _ => ?_)
      | refine brK_in (fun _ => ?_) (fun _ => ?_)
      | refine And.intro (by first | exact rfl | exact ⟨_, rfl, rfl⟩ | exact ⟨rfl, rfl, rfl⟩ | exact of_decide_eq_true rfl | exact trivial | assumption | omega | (show (_ ≤ _ ∧ _ ≤ _); omega) | (simp; omega) | exact ⟨by first | omega | (simp; omega), _, rfl, rfl⟩) ?_
      | refine Both.mk ?_ ?_
      | refine Exists.intro _ (And.intro rfl ?_)
      | refine opt_use (by assumption) ?_
      | refine vrow_use (by assumption) ?_
      | refine vrow_in (fun _ _ => ?_)
      | refine fun _ => ?_))
    | exact rfl)
  refine loop_in (ι := Nat) (fun i => mkS 31 [(0, .sl 4 (g.map VxD.row)), (1, I r), (2, I a), (6, I 0), (7, I i)] [] Fs) (fun i => i ≤ g.length ∧ ∀ j, j < i → ∀ u, g[j]? = some u → ¬ (u.r = r ∧ u.a = a)) (fun i => g.length - i) 0 [] ⟨Nat.zero_le _, fun j hj => absurd hj (by omega)⟩ ?_ ?_
  · repeat' (first
      | ((conv => whnf); (first
        | refine brK_dec (fun _ => ?_) (fun _ => ?_)
        | refine brK_ndec (fun _ => ?_) (fun _ => ?_)
        | refine brK_not (fun _ => ?_) (fun _ => ?_)
        | refine brK_in (fun _ => ?_) (fun _ => ?_)
        | refine And.intro (by first | exact rfl | exact ⟨_, rfl, rfl⟩ | exact ⟨rfl, rfl, rfl⟩ | exact of_decide_eq_true rfl | exact trivial | assumption | omega | (show (_ ≤ _ ∧ _ ≤ _); omega) | (simp; omega) | exact ⟨by first | omega | (simp; omega), _, rfl, rfl⟩) ?_
        | refine Both.mk ?_ ?_
        | refine Exists.intro _ (And.intro rfl ?_)
        | refine opt_use (by assumption) ?_
        | refine vrow_use (by assumption) ?_
        | refine vrow_in (fun _ _ => ?_)
        | refine fun _ => ?_))
      | exact rfl)
  intro i ⟨hi, hall⟩
  repeat' (first
    | ((conv => whnf); (first
      | refine brK_dec (fun _ => ?_) (fun _ => ?_)
      | refine brK_ndec (fun _ => ?_) (fun _ => ?_)
      | refine brK_not (fun _ => ?_) (fun _ => ?_)
      | refine brK_in (fun _ => ?_) (fun _ => ?_)
      | refine And.intro (by first | exact rfl | exact ⟨_, rfl, rfl⟩ | exact ⟨rfl, rfl, rfl⟩ | exact of_decide_eq_true rfl | exact trivial | assumption | omega | (show (_ ≤ _ ∧ _ ≤ _); omega) | (simp; omega) | exact ⟨by first | omega | (simp; omega), _, rfl, rfl⟩) ?_
      | refine Both.mk ?_ ?_
      | refine Exists.intro _ (And.intro rfl ?_)
      | refine opt_use (by assumption) ?_
      | refine vrow_use (by assumption) ?_
      | refine vrow_in (fun _ _ => ?_)
      | refine fun _ => ?_))
    | exact rfl)
  · rename_i h0 u hu e1 e2
    have hu : g[i]? = some u := hu
    rw [fnd_some (find_is hu e1 e2 hall)] at h
    exact h
  · rename_i h0 u hu e1 e2
    have hu : g[i]? = some u := hu
    refine ⟨i + 1, [], ⟨by omega, fun j hj w hw => ?_⟩, by omega, ?_⟩
    · rcases Nat.lt_or_ge j i with h1 | h1
      · exact hall j h1 w hw
      · obtain rfl : j = i := by omega
        rw [hu] at hw
        cases hw
        exact fun hh => e2 hh.2
    repeat' (first
      | ((conv => whnf); (first
        | refine brK_dec (fun _ => ?_) (fun _ => ?_)
        | refine brK_ndec (fun _ => ?_) (fun _ => ?_)
        | refine brK_not (fun _ => ?_) (fun _ => ?_)
        | refine brK_in (fun _ => ?_) (fun _ => ?_)
        | refine And.intro (by first | exact rfl | exact ⟨_, rfl, rfl⟩ | exact ⟨rfl, rfl, rfl⟩ | exact of_decide_eq_true rfl | exact trivial | assumption | omega | (show (_ ≤ _ ∧ _ ≤ _); omega) | (simp; omega) | exact ⟨by first | omega | (simp; omega), _, rfl, rfl⟩) ?_
        | refine Both.mk ?_ ?_
        | refine Exists.intro _ (And.intro rfl ?_)
        | refine opt_use (by assumption) ?_
        | refine vrow_use (by assumption) ?_
        | refine vrow_in (fun _ _ => ?_)
        | refine fun _ => ?_))
      | exact rfl)
  · rename_i h0 u hu e1
    have hu : g[i]? = some u := hu
    refine ⟨i + 1, [], ⟨by omega, fun j hj w hw => ?_⟩, by omega, ?_⟩
    · rcases Nat.lt_or_ge j i with h1 | h1
      · exact hall j h1 w hw
      · obtain rfl : j = i := by omega
        rw [hu] at hw
        cases hw
        exact fun hh => e1 hh.1
    repeat' (first
      | ((conv => whnf); (first
        | refine brK_dec (fun _ => ?_) (fun _ => ?_)
        | refine brK_ndec (fun _ => ?_) (fun _ => ?_)
        | refine brK_not (fun _ => ?_) (fun _ => ?_)
        | refine brK_in (fun _ => ?_) (fun _ => ?_)
        | refine And.intro (by first | exact rfl | exact ⟨_, rfl, rfl⟩ | exact ⟨rfl, rfl, rfl⟩ | exact of_decide_eq_true rfl | exact trivial | assumption | omega | (show (_ ≤ _ ∧ _ ≤ _); omega) | (simp; omega) | exact ⟨by first | omega | (simp; omega), _, rfl, rfl⟩) ?_
        | refine Both.mk ?_ ?_
        | refine Exists.intro _ (And.intro rfl ?_)
        | refine opt_use (by assumption) ?_
        | refine vrow_use (by assumption) ?_
        | refine vrow_in (fun _ _ => ?_)
        | refine fun _ => ?_))
      | exact rfl)
  · rename_i h0
    rw [fnd_none (find_non fun j hj => hall j (by omega))] at h
    exact h
theorem par_no {g : List VxD} {v : VxD} {k : Nat} {x : Int} (hx : v.p[k]? = some x) (h : findV g (v.r - 1) x = none) : parB g v = false := by
  unfold parB
  rw [List.all_eq_false]
  exact ⟨x, List.mem_of_getElem? hx, by rw [h]; simp⟩
theorem par_yes {g : List VxD} {v : VxD} (h : ∀ (k : Nat) x, v.p[k]? = some x → (findV g (v.r - 1) x).isSome = true) : parB g v = true := by
  unfold parB
  rw [List.all_eq_true]
  intro x hx
  obtain ⟨k, hk⟩ := List.mem_iff_getElem?.1 hx
  exact h k x hk
def c_spec_l11Parents : Con := ⟨0, 0, false, fun xs hs _ K => match xs with
  | [.sl 4 rows, .agg [.val (.int .i64 r), .val (.int .i64 a), .ints p, .val (.int .i64 d)]] => hs = [] ∧ ∃ g : List VxD, rows = g.map VxD.row ∧ g.length < 2000000 ∧ p.length < 2000000 ∧ (-9000000000000000000 ≤ r ∧ r ≤ 9000000000000000000) ∧ K (B (parB g ⟨r, a, p, d⟩)) [] []
  | _ => False⟩
theorem k_spec_l11Parents : Keeps' Tryd.prog 31 c_spec_l11Parents := by
  refine keeps_of_vc mix TyT_ok (cok_cons k_spec_l11Find Tryd.func53 rfl rfl cok_nil) Tryd.func31 rfl rfl rfl ?_
  intro aargs hs Fs K h
  simp only [c_spec_l11Parents] at h
  split at h
  case h_2 => exact h.elim
  rename_i rows r a p d
  obtain ⟨rfl, g, rfl, hg, hp, hr, h⟩ := h
  have hlen : (g.map VxD.row).length = g.length := by simp
  have no : ∀ {b : Bool}, parB g ⟨r, a, p, d⟩ = b → K (B b) [] [] := fun e => by rw [← e]; exact h
  repeat' (first
    | ((conv => whnf); (first
      | refine brK_dec (fun _ => ?_) (fun _ => ?_)
      | refine brK_ndec (fun _ => ?_) (fun _ => ?_)
      | refine brK_not (fun _ => ?_) (fun _ => ?_)
      | refine brK_in (fun _ => ?_) (fun _ => ?_)
      | refine And.intro (by first | exact rfl | exact ⟨_, rfl, rfl⟩ | exact ⟨rfl, rfl, rfl⟩ | exact of_decide_eq_true rfl | exact trivial | assumption | omega | (show (_ ≤ _ ∧ _ ≤ _); omega) | (simp; omega) | exact ⟨by first | omega | (simp; omega), _, rfl, rfl⟩) ?_
      | refine Both.mk ?_ ?_
      | refine Exists.intro _ (And.intro rfl ?_)
      | refine opt_use (by assumption) ?_
      | refine vrow_use (by assumption) ?_
      | refine vrow_in (fun _ _ => ?_)
      | refine fun _ => ?_))
    | exact rfl)
  refine loop_in (ι := Nat) (fun i => mkS 24 [(0, .sl 4 (g.map VxD.row)), (1, .agg [I r, I a, .ints p, I d]), (3, .ptr 0 0), (4, B false), (5, I i)] [.cells [I r, I a, .ints p, I d]] Fs) (fun i => i ≤ p.length ∧ ∀ (k : Nat) x, k < i → p[k]? = some x → (findV g (r - 1) x).isSome = true) (fun i => p.length - i) 0 [0] ⟨Nat.zero_le _, fun j x hj => absurd hj (by omega)⟩ ?_ ?_
  · repeat' (first
      | ((conv => whnf); (first
        | refine brK_dec (fun _ => ?_) (fun _ => ?_)
        | refine brK_ndec (fun _ => ?_) (fun _ => ?_)
        | refine brK_not (fun _ => ?_) (fun _ => ?_)
        | refine brK_in (fun _ => ?_) (fun _ => ?_)
        | refine And.intro (by first | exact rfl | exact ⟨_, rfl, rfl⟩ | exact ⟨rfl, rfl, rfl⟩ | exact of_decide_eq_true rfl | exact trivial | assumption | omega | (show (_ ≤ _ ∧ _ ≤ _); omega) | (simp; omega) | exact ⟨by first | omega | (simp; omega), _, rfl, rfl⟩) ?_
        | refine Both.mk ?_ ?_
        | refine Exists.intro _ (And.intro rfl ?_)
        | refine opt_use (by assumption) ?_
        | refine vrow_use (by assumption) ?_
        | refine vrow_in (fun _ _ => ?_)
        | refine fun _ => ?_))
      | exact rfl)
  intro i ⟨hi, hall⟩
  repeat' (first
    | ((conv => whnf); (first
      | refine draw_plan (id := 4) [] [] (.take 0 (.take 1 (.take 2 (.take 3 (.take 4 (.take 5 (.take 6 (.take 7 (.take 8 (.run 9 (.take 10 .done))))))))))) (by kernel_rfl) (by kernel_rfl) ?_
      | refine brK_dec (fun _ => ?_) (fun _ => ?_)
      | refine brK_ndec (fun _ => ?_) (fun _ => ?_)
      | refine brK_not (fun _ => ?_) (fun _ => ?_)
      | refine brK_in (fun _ => ?_) (fun _ => ?_)
      | refine And.intro (by first | exact rfl | exact ⟨_, rfl, rfl⟩ | exact ⟨rfl, rfl, rfl⟩ | exact of_decide_eq_true rfl | exact trivial | assumption | omega | (show (_ ≤ _ ∧ _ ≤ _); omega) | (simp; omega) | exact ⟨by first | omega | (simp; omega), _, rfl, rfl⟩) ?_
      | refine Both.mk ?_ ?_
      | refine Exists.intro _ (And.intro rfl ?_)
      | refine opt_use (by assumption) ?_
      | refine vrow_use (by assumption) ?_
      | refine vrow_in (fun _ _ => ?_)
      | refine fun _ => ?_))
    | exact rfl)
  · rename_i h0 x hx hn
    have hx : p[i]? = some x := hx
    refine no (par_no (v := ⟨r, a, p, d⟩) hx ?_)
    rcases fnd_cases g (r - 1) x with ⟨j, e1, e2, e3⟩ | ⟨e1, e2⟩
    · omega
    · exact e1
  · rename_i h0 x hx hn
    have hx : p[i]? = some x := hx
    refine ⟨i + 1, [0], ⟨by omega, fun j y hj hy => ?_⟩, by omega, ?_⟩
    · rcases Nat.lt_or_ge j i with h1 | h1
      · exact hall j y h1 hy
      · obtain rfl : j = i := by omega
        rw [hx] at hy
        cases hy
        rcases fnd_cases g (r - 1) x with ⟨j, e1, e2, e3⟩ | ⟨e1, e2⟩
        · rw [e1]; rfl
        · omega
    repeat' (first
      | ((conv => whnf); (first
        | refine brK_dec (fun _ => ?_) (fun _ => ?_)
        | refine brK_ndec (fun _ => ?_) (fun _ => ?_)
        | refine brK_not (fun _ => ?_) (fun _ => ?_)
        | refine brK_in (fun _ => ?_) (fun _ => ?_)
        | refine And.intro (by first | exact rfl | exact ⟨_, rfl, rfl⟩ | exact ⟨rfl, rfl, rfl⟩ | exact of_decide_eq_true rfl | exact trivial | assumption | omega | (show (_ ≤ _ ∧ _ ≤ _); omega) | (simp; omega) | exact ⟨by first | omega | (simp; omega), _, rfl, rfl⟩) ?_
        | refine Both.mk ?_ ?_
        | refine Exists.intro _ (And.intro rfl ?_)
        | refine opt_use (by assumption) ?_
        | refine vrow_use (by assumption) ?_
        | refine vrow_in (fun _ _ => ?_)
        | refine fun _ => ?_))
      | exact rfl)
  · rename_i h0
    refine no (par_yes (v := ⟨r, a, p, d⟩) fun j x hx => hall j x ?_ hx)
    have := (List.getElem?_eq_some_iff.1 hx).1
    have : j < p.length := this
    omega
def c_spec_l11Vertex : Con := ⟨0, 0, false, fun xs hs _ K => match xs with
  | [.ints c, .agg [.val (.int .i64 r), .val (.int .i64 a), .ints p, .val (.int .i64 d)]] => hs = [] ∧ comV c = true ∧ p.length < 2000000 ∧ K (B (vxV c ⟨r, a, p, d⟩)) [] []
  | _ => False⟩
theorem k_spec_l11Vertex : Keeps' Tryd.prog 29 c_spec_l11Vertex := by
  refine keeps_of_vc mix TyT_ok (cok_cons k_spec_l6In Tryd.func48 rfl rfl (cok_cons k_spec_l1Members Tryd.func49 rfl rfl (cok_cons k_spec_l2Digest Tryd.func50 rfl rfl (cok_cons k_spec_l1Weight Tryd.func51 rfl rfl (cok_cons k_spec_l1Quorum Tryd.func52 rfl rfl cok_nil))))) Tryd.func29 rfl rfl rfl ?_
  intro aargs hs Fs K h
  simp only [c_spec_l11Vertex] at h
  split at h
  case h_2 => exact h.elim
  rename_i c r a p d
  obtain ⟨rfl, hc, hp, h⟩ := h
  obtain ⟨hc1, hc2, hcx⟩ := com_out hc
  have hcl : c.length < 2000 := by omega
  have no : ∀ {b : Bool}, vxV c ⟨r, a, p, d⟩ = b → K (B b) [] [] := fun e => by rw [← e]; exact h
  repeat' (first
    | ((conv => whnf); (first
      | refine brK_dec (fun _ => ?_) (fun _ => ?_)
      | refine brK_ndec (fun _ => ?_) (fun _ => ?_)
      | refine brK_not (fun _ => ?_) (fun _ => ?_)
      | refine brK_in (fun _ => ?_) (fun _ => ?_)
      | refine And.intro (by first | exact rfl | exact ⟨_, rfl, rfl⟩ | exact ⟨rfl, rfl, rfl⟩ | exact of_decide_eq_true rfl | exact trivial | assumption | omega | (show (_ ≤ _ ∧ _ ≤ _); omega) | (simp; omega) | exact ⟨by first | omega | (simp; omega), _, rfl, rfl⟩) ?_
      | refine Both.mk ?_ ?_
      | refine Exists.intro _ (And.intro rfl ?_)
      | refine opt_use (by assumption) ?_
      | refine vrow_use (by assumption) ?_
      | refine vrow_in (fun _ _ => ?_)
      | refine fun _ => ?_))
    | exact rfl)
  all_goals (refine no ?_; simp_all [vxV])
def c_spec_GraphValid : Con := ⟨0, 0, false, fun xs hs _ K => match xs with
  | [.ints c, .sl 4 rows] => hs = [] ∧ ∃ g : List VxD, rows = g.map VxD.row ∧ c.length < 2000000 ∧ g.length < 2000000 ∧ (∀ v ∈ g, v.p.length < 2000000) ∧ K (B (gV c g)) [] []
  | _ => False⟩
theorem gV_no {c : List Int} {g : List VxD} {i : Nat} (hi : i < g.length) (h : gcell c g i = false) : gV c g = false := by
  have : (List.range g.length).all (gcell c g) = false := by
    rw [List.all_eq_false]
    exact ⟨i, by simpa using hi, by simp [h]⟩
  rw [gV, this, Bool.and_false]
theorem gV_com {c : List Int} {g : List VxD} (h : comV c = false) : gV c g = false := by rw [gV, h, Bool.false_and]
theorem gV_yes {c : List Int} {g : List VxD} (hc : comV c = true) (h : ∀ i, i < g.length → gcell c g i = true) : gV c g = true := by
  rw [gV, hc, Bool.true_and, List.all_eq_true]
  intro i hi
  exact h i (by simpa using hi)
theorem gc_vx {c : List Int} {g : List VxD} {i : Nat} {v : VxD} (hv : g[i]? = some v) (h : vxV c v = false) : gcell c g i = false := by
  unfold gcell
  rw [hv]
  simp only [h, Bool.false_and]
theorem gc_first {c : List Int} {g : List VxD} {v : VxD} (hv : g[0]? = some v) : gcell c g 0 = (vxV c v && parB g v) := by
  unfold gcell
  rw [hv]
  simp only [decide_true, Bool.true_or, Bool.true_and]
theorem gc_next {c : List Int} {g : List VxD} {i : Nat} {u v : VxD} (h0 : 0 < i) (hv : g[i]? = some v) (hu : g[i - 1]? = some u) : gcell c g i = (vxV c v && (ltB u v && parB g v)) := by
  have h1 : decide (i = 0) = false := decide_eq_false (by omega)
  unfold gcell
  rw [hv]
  simp only [hu, h1, Bool.false_or]
theorem vx_small {c : List Int} {v : VxD} (h : vxV c v = true) : -9000000000000000000 ≤ v.r ∧ v.r ≤ 9000000000000000000 := by
  have := (vx_out h).1
  omega
theorem vx_eta (v : VxD) : (⟨v.r, v.a, v.p, v.d⟩ : VxD) = v := rfl
theorem k_spec_GraphValid : Keeps' Tryd.prog 14 c_spec_GraphValid := by
  refine keeps_of_vc mix TyT_ok (cok_cons k_spec_CommitteeValid Tryd.func28 rfl rfl (cok_cons k_spec_l11Vertex Tryd.func29 rfl rfl (cok_cons k_spec_l11Before Tryd.func30 rfl rfl (cok_cons k_spec_l11Parents Tryd.func31 rfl rfl cok_nil)))) Tryd.func14 rfl rfl rfl ?_
  intro aargs hs Fs K h
  simp only [c_spec_GraphValid] at h
  split at h
  case h_2 => exact h.elim
  rename_i c rows
  obtain ⟨rfl, g, rfl, hc, hg, hp, h⟩ := h
  have hlen : (g.map VxD.row).length = g.length := by simp
  have no : ∀ {b : Bool}, gV c g = b → K (B b) [] [] := fun e => by rw [← e]; exact h
  repeat' (first
    | ((conv => whnf); (first
      | refine brK_dec (fun _ => ?_) (fun _ => ?_)
      | refine brK_ndec (fun _ => ?_) (fun _ => ?_)
      | refine brK_not (fun _ => ?_) (fun _ => ?_)
      | refine brK_in (fun _ => ?_) (fun _ => ?_)
      | refine And.intro (by first | exact rfl | exact ⟨_, rfl, rfl⟩ | exact ⟨rfl, rfl, rfl⟩ | exact of_decide_eq_true rfl | exact trivial | assumption | omega | (show (_ ≤ _ ∧ _ ≤ _); omega) | (simp; omega) | exact ⟨by first | omega | (simp; omega), _, rfl, rfl⟩) ?_
      | refine Both.mk ?_ ?_
      | refine Exists.intro _ (And.intro rfl ?_)
      | refine opt_use (by assumption) ?_
      | refine vrow_use (by assumption) ?_
      | refine vrow_in (fun _ _ => ?_)
      | refine fun _ => ?_))
    | exact rfl)
  · rename_i hv
    exact no (gV_com hv)
  rename_i hv
  refine loop_in (ι := Nat) (fun i => mkS 48 [(0, .ints c), (1, .sl 4 (g.map VxD.row)), (4, B false), (5, I i)] [] Fs) (fun i => i ≤ g.length ∧ ∀ k, k < i → gcell c g k = true) (fun i => g.length - i) 0 [] ⟨Nat.zero_le _, fun j hj => absurd hj (by omega)⟩ ?_ ?_
  · repeat' (first
      | ((conv => whnf); (first
        | refine brK_dec (fun _ => ?_) (fun _ => ?_)
        | refine brK_ndec (fun _ => ?_) (fun _ => ?_)
        | refine brK_not (fun _ => ?_) (fun _ => ?_)
        | refine brK_in (fun _ => ?_) (fun _ => ?_)
        | refine And.intro (by first | exact rfl | exact ⟨_, rfl, rfl⟩ | exact ⟨rfl, rfl, rfl⟩ | exact of_decide_eq_true rfl | exact trivial | assumption | omega | (show (_ ≤ _ ∧ _ ≤ _); omega) | (simp; omega) | exact ⟨by first | omega | (simp; omega), _, rfl, rfl⟩) ?_
        | refine Both.mk ?_ ?_
        | refine Exists.intro _ (And.intro rfl ?_)
        | refine opt_use (by assumption) ?_
        | refine vrow_use (by assumption) ?_
        | refine vrow_in (fun _ _ => ?_)
        | refine fun _ => ?_))
      | exact rfl)
  intro i ⟨hi, hall⟩
  repeat' (first
    | ((conv => whnf); (first
      | refine draw_plan (id := 6) [] [] (.take 0 (.take 1 (.take 2 (.take 3 (.take 4 (.run 5 (.take 6 (.take 7 (.take 8 (.take 9 (.take 10 (.take 11 (.take 12 (.take 13 (.take 14 (.take 15 (.take 16 (.take 17 (.take 18 (.take 19 (.run 20 (.take 21 (.take 22 (.take 23 (.take 24 (.take 25 (.take 26 (.take 27 (.take 28 (.take 29 (.run 30 (.take 31 (.take 32 .done))))))))))))))))))))))))))))))))) (by kernel_rfl) (by kernel_rfl) ?_
      | refine brK_dec (fun _ => ?_) (fun _ => ?_)
      | refine brK_ndec (fun _ => ?_) (fun _ => ?_)
      | refine brK_not (fun _ => ?_) (fun _ => ?_)
      | refine brK_in (fun _ => ?_) (fun _ => ?_)
      | refine And.intro (by first | exact rfl | exact (by first | exact hp _ (List.mem_of_getElem? (by assumption)) | exact vx_small (by assumption)) | exact ⟨_, rfl, rfl⟩ | exact ⟨rfl, rfl, rfl⟩ | exact of_decide_eq_true rfl | exact trivial | assumption | omega | (show (_ ≤ _ ∧ _ ≤ _); omega) | (simp; omega) | exact ⟨by first | omega | (simp; omega), _, rfl, rfl⟩) ?_
      | refine Both.mk ?_ ?_
      | refine Exists.intro _ (And.intro rfl ?_)
      | refine opt_use (by assumption) ?_
      | refine vrow_use (by assumption) ?_
      | refine vrow_in (fun _ _ => ?_)
      | refine fun _ => ?_))
    | exact rfl)
  · rename_i h0 v hv e
    exact no (gV_no (by omega) (gc_vx (v := v) hv e))
  · rename_i h0 v hv e h1 u hu e2
    have e1 : ((i : Int) - 1).toNat = i - 1 := by omega
    rw [e1] at hu
    have hv : g[i]? = some v := hv
    refine no (gV_no (i := i) (by omega) ?_)
    rw [gc_next (by omega) hv hu]
    have e2 : ltB u v = false := e2
    rw [e2]
    simp
  · rename_i h0 v hv e h1 u hu e2 e3
    have e1 : ((i : Int) - 1).toNat = i - 1 := by omega
    rw [e1] at hu
    have hv : g[i]? = some v := hv
    refine no (gV_no (i := i) (by omega) ?_)
    rw [gc_next (by omega) hv hu]
    have e3 : parB g v = false := e3
    rw [e3]
    simp
  · rename_i h0 v hv e h1 u hu e2 e3
    have e1 : ((i : Int) - 1).toNat = i - 1 := by omega
    rw [e1] at hu
    have hv : g[i]? = some v := hv
    have hc : gcell c g i = true := by
      rw [gc_next (by omega) hv hu]
      have e : vxV c v = true := e
      have e2 : ltB u v = true := e2
      have e3 : parB g v = true := e3
      rw [e, e2, e3]
      rfl
    refine ⟨i + 1, [], ⟨by omega, fun j hj => ?_⟩, by omega, ?_⟩
    · rcases Nat.lt_or_ge j i with h1 | h1
      · exact hall j h1
      · rw [show j = i by omega]; exact hc
    repeat' (first
      | ((conv => whnf); (first
        | refine brK_dec (fun _ => ?_) (fun _ => ?_)
        | refine brK_ndec (fun _ => ?_) (fun _ => ?_)
        | refine brK_not (fun _ => ?_) (fun _ => ?_)
        | refine brK_in (fun _ => ?_) (fun _ => ?_)
        | refine And.intro (by first | exact rfl | exact ⟨_, rfl, rfl⟩ | exact ⟨rfl, rfl, rfl⟩ | exact of_decide_eq_true rfl | exact trivial | assumption | omega | (show (_ ≤ _ ∧ _ ≤ _); omega) | (simp; omega) | exact ⟨by first | omega | (simp; omega), _, rfl, rfl⟩) ?_
        | refine Both.mk ?_ ?_
        | refine Exists.intro _ (And.intro rfl ?_)
        | refine opt_use (by assumption) ?_
        | refine vrow_use (by assumption) ?_
        | refine vrow_in (fun _ _ => ?_)
        | refine fun _ => ?_))
      | exact rfl)
  · rename_i h0 v hv e h1 e3
    obtain rfl : i = 0 := by omega
    have hv : g[0]? = some v := hv
    refine no (gV_no (i := 0) (by omega) ?_)
    rw [gc_first hv]
    have e3 : parB g v = false := e3
    rw [e3]
    simp
  · rename_i h0 v hv e h1 e3
    obtain rfl : i = 0 := by omega
    have hv : g[0]? = some v := hv
    have hc : gcell c g 0 = true := by
      rw [gc_first hv]
      have e : vxV c v = true := e
      have e3 : parB g v = true := e3
      rw [e, e3]
      rfl
    refine ⟨0 + 1, [], ⟨by omega, fun j hj => ?_⟩, by omega, ?_⟩
    · rw [show j = 0 by omega]; exact hc
    repeat' (first
      | ((conv => whnf); (first
        | refine brK_dec (fun _ => ?_) (fun _ => ?_)
        | refine brK_ndec (fun _ => ?_) (fun _ => ?_)
        | refine brK_not (fun _ => ?_) (fun _ => ?_)
        | refine brK_in (fun _ => ?_) (fun _ => ?_)
        | refine And.intro (by first | exact rfl | exact ⟨_, rfl, rfl⟩ | exact ⟨rfl, rfl, rfl⟩ | exact of_decide_eq_true rfl | exact trivial | assumption | omega | (show (_ ≤ _ ∧ _ ≤ _); omega) | (simp; omega) | exact ⟨by first | omega | (simp; omega), _, rfl, rfl⟩) ?_
        | refine Both.mk ?_ ?_
        | refine Exists.intro _ (And.intro rfl ?_)
        | refine opt_use (by assumption) ?_
        | refine vrow_use (by assumption) ?_
        | refine vrow_in (fun _ _ => ?_)
        | refine fun _ => ?_))
      | exact rfl)
  · rename_i h0
    exact no (gV_yes hv fun j hj => hall j (by omega))
end Go.Proofs.YtenflffikgfphaaDoor
