/-
Graphs, by the reference: places, parents, valid graphs.
Leaders, what a vertex depends on, votes: by the reference.
What a vertex depends on, by the reference.
Votes and committed waves, by the reference.
No conditions.
-/
import Derived.Test.YtalbgcpfekmfoaaPlB
import Derived.Test.YtalbgcpfekmfoaaHsA
import Derived.Test.YtalbgcpfekmfoaaPlA
namespace Go.Proofs.Ytalbgcpfekmfoaa
open Go Go.Vc
set_option maxHeartbeats 1000000
set_option maxRecDepth 10000
theorem vrow_in {g : List VxD} {n : Nat} {P : List AV → Prop} (h : ∀ v, g[n]? = some v → P v.row) : ∀ e, (g.map VxD.row)[n]? = some e → P e := by
  intro e he
  rw [List.getElem?_map] at he
  obtain ⟨v, hv, rfl⟩ := Option.map_eq_some_iff.1 he
  exact h v hv
theorem vrow_use {g : List VxD} {n : Nat} {v : VxD} {P : List AV → Prop} (hv : g[n]? = some v) (h : P v.row) : ∀ e, (g.map VxD.row)[n]? = some e → P e :=
  vrow_in fun u hu => by
    rw [hv] at hu
    cases hu
    exact h
theorem opt_use {α : Type} {l : List α} {n : Nat} {v : α} {P : α → Prop} (hv : l[n]? = some v) (h : P v) : ∀ x, l[n]? = some x → P x := fun x hx => by
  rw [hv] at hx
  cases hx
  exact h
def fndI (g : List VxD) (r a : Int) : Int := match findV g r a with
  | some i => i
  | none => -1
theorem fnd_some {g : List VxD} {r a : Int} {i : Nat} (h : findV g r a = some i) : fndI g r a = i := by rw [fndI, h]
theorem fnd_none {g : List VxD} {r a : Int} (h : findV g r a = none) : fndI g r a = -1 := by rw [fndI, h]
theorem fnd_cases (g : List VxD) (r a : Int) : (∃ i, findV g r a = some i ∧ fndI g r a = (i : Int) ∧ i < g.length) ∨ (findV g r a = none ∧ fndI g r a = -1) := by
  cases h : findV g r a with
  | none => exact .inr ⟨rfl, fnd_none h⟩
  | some i =>
    obtain ⟨v, hv, _⟩ := find_out h
    exact .inl ⟨i, rfl, fnd_some h, (List.getElem?_eq_some_iff.1 hv).1⟩
theorem find_is : ∀ {g : List VxD} {r a : Int} {i : Nat} {v : VxD}, g[i]? = some v → v.r = r → v.a = a → (∀ j, j < i → ∀ u, g[j]? = some u → ¬ (u.r = r ∧ u.a = a)) → findV g r a = some i
  | [], _, _, _, _, h, _, _, _ => by simp at h
  | x :: g, r, a, 0, v, h, h1, h2, _ => by
    simp at h
    subst h
    unfold findV
    rw [if_pos ⟨h1, h2⟩]
  | x :: g, r, a, i + 1, v, h, h1, h2, hn => by
    unfold findV
    rw [if_neg (hn 0 (by omega) x rfl), find_is (g := g) (i := i) (by simpa using h) h1 h2 fun j hj u hu => hn (j + 1) (by omega) u (by simpa using hu)]
    rfl
theorem find_non : ∀ {g : List VxD} {r a : Int}, (∀ j, j < g.length → ∀ u, g[j]? = some u → ¬ (u.r = r ∧ u.a = a)) → findV g r a = none
  | [], _, _, _ => rfl
  | x :: g, r, a, hn => by
    unfold findV
    rw [if_neg (hn 0 (by simp) x rfl), find_non (g := g) fun j hj u hu => hn (j + 1) (by simpa using hj) u (by simpa using hu)]
    rfl
def c_spec_l11Before : Con := ⟨0, 0, false, fun xs hs _ K => match xs with
  | [.agg [.val (.int .i64 r), .val (.int .i64 a), .ints p, .val (.int .i64 d)], .agg [.val (.int .i64 r'), .val (.int .i64 a'), .ints p', .val (.int .i64 d')]] => hs = [] ∧ K (B (ltB ⟨r, a, p, d⟩ ⟨r', a', p', d'⟩)) [] []
  | _ => False⟩
theorem k_spec_l11Before : Keeps' Try.prog 70 c_spec_l11Before := by
  refine keeps_of_vc mix TyT_ok cok_nil Try.func70 rfl rfl rfl ?_
  intro aargs hs Fs K h
  simp only [c_spec_l11Before] at h
  split at h
  case h_2 => exact h.elim
  rename_i r a p d r' a' p' d'
  obtain ⟨rfl, h⟩ := h
  simp only [ltB] at h
  repeat' (first|((conv=>whnf); (first|refine brK_dec (fun _=>?_) (fun _=>?_)|refine brK_ndec (fun _=>?_) (fun _=>?_)|refine brK_not (fun _=>?_) (fun _=>?_)|refine brK_in (fun _=>?_) (fun _=>?_)|refine And.intro (by first|exact rfl|exact ⟨_,rfl,rfl⟩|exact ⟨rfl,rfl,rfl⟩|exact of_decide_eq_true rfl|exact trivial|assumption|omega|(show (_ ≤ _ ∧ _ ≤ _); omega)|(simp; omega)|exact ⟨by first|omega|(simp; omega),_,rfl,rfl⟩) ?_|refine Quo.l (And.intro (by first|exact rfl|assumption|omega|(simp; omega)) ?_)|refine Quo.r (And.intro (by omega) ?_)|refine Both.mk ?_ ?_|refine Exists.intro _ (And.intro rfl ?_)|refine opt_use (by assumption) ?_|refine vrow_use (by assumption) ?_|refine vrow_in (fun _ _=>?_)|refine fun _=>?_))|exact rfl)
  · rename_i h1
    rw [decide_eq_true h1] at h
    exact h
  · rename_i h1 h2
    rw [decide_eq_false h1, decide_eq_true h2] at h
    exact h
  · rename_i h1 h2
    rw [decide_eq_false h1, decide_eq_false h2] at h
    exact h
def c_spec_l11Find : Con := ⟨0, 0, false, fun xs hs _ K => match xs with
  | [.sl 4 rows, .val (.int .i64 r), .val (.int .i64 a)] => hs = [] ∧ ∃ g : List VxD, rows = g.map VxD.row ∧ g.length < 2000000 ∧ K (I (fndI g r a)) [] []
  | _ => False⟩
theorem k_spec_l11Find : Keeps' Try.prog 87 c_spec_l11Find := by
  refine keeps_of_vc mix TyT_ok cok_nil Try.func87 rfl rfl rfl ?_
  intro aargs hs Fs K h
  simp only [c_spec_l11Find] at h
  split at h
  case h_2 => exact h.elim
  rename_i rows r a
  obtain ⟨rfl, g, rfl, hg, h⟩ := h
  have hlen : (g.map VxD.row).length = g.length := by simp
  repeat' (first|((conv=>whnf); (first|refine brK_dec (fun _=>?_) (fun _=>?_)|refine brK_ndec (fun _=>?_) (fun _=>?_)|refine brK_not (fun _=>?_) (fun _=>?_)|refine brK_in (fun _=>?_) (fun _=>?_)|refine And.intro (by first|exact rfl|exact ⟨_,rfl,rfl⟩|exact ⟨rfl,rfl,rfl⟩|exact of_decide_eq_true rfl|exact trivial|assumption|omega|(show (_ ≤ _ ∧ _ ≤ _); omega)|(simp; omega)|exact ⟨by first|omega|(simp; omega),_,rfl,rfl⟩) ?_|refine Quo.l (And.intro (by first|exact rfl|assumption|omega|(simp; omega)) ?_)|refine Quo.r (And.intro (by omega) ?_)|refine Both.mk ?_ ?_|refine Exists.intro _ (And.intro rfl ?_)|refine opt_use (by assumption) ?_|refine vrow_use (by assumption) ?_|refine vrow_in (fun _ _=>?_)|refine fun _=>?_))|exact rfl)
  refine loop_in (ι := Nat) (fun i => mkS 31 [(0, .sl 4 (g.map VxD.row)), (1, I r), (2, I a), (6, I 0), (7, I i)] [] Fs) (fun i => i ≤ g.length ∧ ∀ j, j < i → ∀ u, g[j]? = some u → ¬ (u.r = r ∧ u.a = a)) (fun i => g.length - i) 0 [] ⟨Nat.zero_le _, fun j hj => absurd hj (by omega)⟩ ?_ ?_
  · repeat' (first|((conv=>whnf); (first|refine brK_dec (fun _=>?_) (fun _=>?_)|refine brK_ndec (fun _=>?_) (fun _=>?_)|refine brK_not (fun _=>?_) (fun _=>?_)|refine brK_in (fun _=>?_) (fun _=>?_)|refine And.intro (by first|exact rfl|exact ⟨_,rfl,rfl⟩|exact ⟨rfl,rfl,rfl⟩|exact of_decide_eq_true rfl|exact trivial|assumption|omega|(show (_ ≤ _ ∧ _ ≤ _); omega)|(simp; omega)|exact ⟨by first|omega|(simp; omega),_,rfl,rfl⟩) ?_|refine Quo.l (And.intro (by first|exact rfl|assumption|omega|(simp; omega)) ?_)|refine Quo.r (And.intro (by omega) ?_)|refine Both.mk ?_ ?_|refine Exists.intro _ (And.intro rfl ?_)|refine opt_use (by assumption) ?_|refine vrow_use (by assumption) ?_|refine vrow_in (fun _ _=>?_)|refine fun _=>?_))|exact rfl)
  intro i ⟨hi, hall⟩
  repeat' (first|((conv=>whnf); (first|refine brK_dec (fun _=>?_) (fun _=>?_)|refine brK_ndec (fun _=>?_) (fun _=>?_)|refine brK_not (fun _=>?_) (fun _=>?_)|refine brK_in (fun _=>?_) (fun _=>?_)|refine And.intro (by first|exact rfl|exact ⟨_,rfl,rfl⟩|exact ⟨rfl,rfl,rfl⟩|exact of_decide_eq_true rfl|exact trivial|assumption|omega|(show (_ ≤ _ ∧ _ ≤ _); omega)|(simp; omega)|exact ⟨by first|omega|(simp; omega),_,rfl,rfl⟩) ?_|refine Quo.l (And.intro (by first|exact rfl|assumption|omega|(simp; omega)) ?_)|refine Quo.r (And.intro (by omega) ?_)|refine Both.mk ?_ ?_|refine Exists.intro _ (And.intro rfl ?_)|refine opt_use (by assumption) ?_|refine vrow_use (by assumption) ?_|refine vrow_in (fun _ _=>?_)|refine fun _=>?_))|exact rfl)
  · rename_i h0 u hu e1 e2
    have hu : g[i]? = some u := hu
    rw [fnd_some (find_is hu e1 e2 hall)] at h
    exact h
  · rename_i h0 u hu e1 e2
    have hu : g[i]? = some u := hu
    refine ⟨i + 1, [], ⟨by omega, fun j hj w hw => ?_⟩, by omega, ?_⟩
    · rcases Nat.lt_or_ge j i with h1 | h1
      · exact hall j h1 w hw
      · obtain rfl : j = i := by omega
        rw [hu] at hw
        cases hw
        exact fun hh => e2 hh.2
    repeat' (first|((conv=>whnf); (first|refine brK_dec (fun _=>?_) (fun _=>?_)|refine brK_ndec (fun _=>?_) (fun _=>?_)|refine brK_not (fun _=>?_) (fun _=>?_)|refine brK_in (fun _=>?_) (fun _=>?_)|refine And.intro (by first|exact rfl|exact ⟨_,rfl,rfl⟩|exact ⟨rfl,rfl,rfl⟩|exact of_decide_eq_true rfl|exact trivial|assumption|omega|(show (_ ≤ _ ∧ _ ≤ _); omega)|(simp; omega)|exact ⟨by first|omega|(simp; omega),_,rfl,rfl⟩) ?_|refine Quo.l (And.intro (by first|exact rfl|assumption|omega|(simp; omega)) ?_)|refine Quo.r (And.intro (by omega) ?_)|refine Both.mk ?_ ?_|refine Exists.intro _ (And.intro rfl ?_)|refine opt_use (by assumption) ?_|refine vrow_use (by assumption) ?_|refine vrow_in (fun _ _=>?_)|refine fun _=>?_))|exact rfl)
  · rename_i h0 u hu e1
    have hu : g[i]? = some u := hu
    refine ⟨i + 1, [], ⟨by omega, fun j hj w hw => ?_⟩, by omega, ?_⟩
    · rcases Nat.lt_or_ge j i with h1 | h1
      · exact hall j h1 w hw
      · obtain rfl : j = i := by omega
        rw [hu] at hw
        cases hw
        exact fun hh => e1 hh.1
    repeat' (first|((conv=>whnf); (first|refine brK_dec (fun _=>?_) (fun _=>?_)|refine brK_ndec (fun _=>?_) (fun _=>?_)|refine brK_not (fun _=>?_) (fun _=>?_)|refine brK_in (fun _=>?_) (fun _=>?_)|refine And.intro (by first|exact rfl|exact ⟨_,rfl,rfl⟩|exact ⟨rfl,rfl,rfl⟩|exact of_decide_eq_true rfl|exact trivial|assumption|omega|(show (_ ≤ _ ∧ _ ≤ _); omega)|(simp; omega)|exact ⟨by first|omega|(simp; omega),_,rfl,rfl⟩) ?_|refine Quo.l (And.intro (by first|exact rfl|assumption|omega|(simp; omega)) ?_)|refine Quo.r (And.intro (by omega) ?_)|refine Both.mk ?_ ?_|refine Exists.intro _ (And.intro rfl ?_)|refine opt_use (by assumption) ?_|refine vrow_use (by assumption) ?_|refine vrow_in (fun _ _=>?_)|refine fun _=>?_))|exact rfl)
  · rename_i h0
    rw [fnd_none (find_non fun j hj => hall j (by omega))] at h
    exact h
theorem par_no {g : List VxD} {v : VxD} {k : Nat} {x : Int} (hx : v.p[k]? = some x) (h : findV g (v.r - 1) x = none) : parB g v = false := by
  unfold parB
  rw [List.all_eq_false]
  exact ⟨x, List.mem_of_getElem? hx, by rw [h]; simp⟩
theorem par_yes {g : List VxD} {v : VxD} (h : ∀ (k : Nat) x, v.p[k]? = some x → (findV g (v.r - 1) x).isSome = true) : parB g v = true := by
  unfold parB
  rw [List.all_eq_true]
  intro x hx
  obtain ⟨k, hk⟩ := List.mem_iff_getElem?.1 hx
  exact h k x hk
def c_spec_l11Parents : Con := ⟨0, 0, false, fun xs hs _ K => match xs with
  | [.sl 4 rows, .agg [.val (.int .i64 r), .val (.int .i64 a), .ints p, .val (.int .i64 d)]] => hs = [] ∧ ∃ g : List VxD, rows = g.map VxD.row ∧ g.length < 2000000 ∧ p.length < 2000000 ∧ (-9000000000000000000 ≤ r ∧ r ≤ 9000000000000000000) ∧ K (B (parB g ⟨r, a, p, d⟩)) [] []
  | _ => False⟩
theorem k_spec_l11Parents : Keeps' Try.prog 71 c_spec_l11Parents := by
  refine keeps_of_vc mix TyT_ok (cok_cons k_spec_l11Find Try.func87 rfl rfl cok_nil) Try.func71 rfl rfl rfl ?_
  intro aargs hs Fs K h
  simp only [c_spec_l11Parents] at h
  split at h
  case h_2 => exact h.elim
  rename_i rows r a p d
  obtain ⟨rfl, g, rfl, hg, hp, hr, h⟩ := h
  have hlen : (g.map VxD.row).length = g.length := by simp
  have no : ∀ {b : Bool}, parB g ⟨r, a, p, d⟩ = b → K (B b) [] [] := fun e => by rw [← e]; exact h
  repeat' (first|((conv=>whnf); (first|refine brK_dec (fun _=>?_) (fun _=>?_)|refine brK_ndec (fun _=>?_) (fun _=>?_)|refine brK_not (fun _=>?_) (fun _=>?_)|refine brK_in (fun _=>?_) (fun _=>?_)|refine And.intro (by first|exact rfl|exact ⟨_,rfl,rfl⟩|exact ⟨rfl,rfl,rfl⟩|exact of_decide_eq_true rfl|exact trivial|assumption|omega|(show (_ ≤ _ ∧ _ ≤ _); omega)|(simp; omega)|exact ⟨by first|omega|(simp; omega),_,rfl,rfl⟩) ?_|refine Quo.l (And.intro (by first|exact rfl|assumption|omega|(simp; omega)) ?_)|refine Quo.r (And.intro (by omega) ?_)|refine Both.mk ?_ ?_|refine Exists.intro _ (And.intro rfl ?_)|refine opt_use (by assumption) ?_|refine vrow_use (by assumption) ?_|refine vrow_in (fun _ _=>?_)|refine fun _=>?_))|exact rfl)
  refine loop_in (ι := Nat) (fun i => mkS 24 [(0, .sl 4 (g.map VxD.row)), (1, .agg [I r, I a, .ints p, I d]), (3, .ptr 0 0), (4, B false), (5, I i)] [.cells [I r, I a, .ints p, I d]] Fs) (fun i => i ≤ p.length ∧ ∀ (k : Nat) x, k < i → p[k]? = some x → (findV g (r - 1) x).isSome = true) (fun i => p.length - i) 0 [0] ⟨Nat.zero_le _, fun j x hj => absurd hj (by omega)⟩ ?_ ?_
  · repeat' (first|((conv=>whnf); (first|refine brK_dec (fun _=>?_) (fun _=>?_)|refine brK_ndec (fun _=>?_) (fun _=>?_)|refine brK_not (fun _=>?_) (fun _=>?_)|refine brK_in (fun _=>?_) (fun _=>?_)|refine And.intro (by first|exact rfl|exact ⟨_,rfl,rfl⟩|exact ⟨rfl,rfl,rfl⟩|exact of_decide_eq_true rfl|exact trivial|assumption|omega|(show (_ ≤ _ ∧ _ ≤ _); omega)|(simp; omega)|exact ⟨by first|omega|(simp; omega),_,rfl,rfl⟩) ?_|refine Quo.l (And.intro (by first|exact rfl|assumption|omega|(simp; omega)) ?_)|refine Quo.r (And.intro (by omega) ?_)|refine Both.mk ?_ ?_|refine Exists.intro _ (And.intro rfl ?_)|refine opt_use (by assumption) ?_|refine vrow_use (by assumption) ?_|refine vrow_in (fun _ _=>?_)|refine fun _=>?_))|exact rfl)
  intro i ⟨hi, hall⟩
  repeat' (first|((conv=>whnf); (first|refine draw_plan (id := 4) [] [] (.take 0 (.take 1 (.take 2 (.take 3 (.take 4 (.take 5 (.take 6 (.take 7 (.take 8 (.run 9 (.take 10 .done))))))))))) (by kernel_rfl) (by kernel_rfl) ?_|refine brK_dec (fun _=>?_) (fun _=>?_)|refine brK_ndec (fun _=>?_) (fun _=>?_)|refine brK_not (fun _=>?_) (fun _=>?_)|refine brK_in (fun _=>?_) (fun _=>?_)|refine And.intro (by first|exact rfl|exact ⟨_,rfl,rfl⟩|exact ⟨rfl,rfl,rfl⟩|exact of_decide_eq_true rfl|exact trivial|assumption|omega|(show (_ ≤ _ ∧ _ ≤ _); omega)|(simp; omega)|exact ⟨by first|omega|(simp; omega),_,rfl,rfl⟩) ?_|refine Quo.l (And.intro (by first|exact rfl|assumption|omega|(simp; omega)) ?_)|refine Quo.r (And.intro (by omega) ?_)|refine Both.mk ?_ ?_|refine Exists.intro _ (And.intro rfl ?_)|refine opt_use (by assumption) ?_|refine vrow_use (by assumption) ?_|refine vrow_in (fun _ _=>?_)|refine fun _=>?_))|exact rfl)
  · rename_i h0 x hx hn
    have hx : p[i]? = some x := hx
    refine no (par_no (v := ⟨r, a, p, d⟩) hx ?_)
    rcases fnd_cases g (r - 1) x with ⟨j, e1, e2, e3⟩ | ⟨e1, e2⟩
    · omega
    · exact e1
  · rename_i h0 x hx hn
    have hx : p[i]? = some x := hx
    refine ⟨i + 1, [0], ⟨by omega, fun j y hj hy => ?_⟩, by omega, ?_⟩
    · rcases Nat.lt_or_ge j i with h1 | h1
      · exact hall j y h1 hy
      · obtain rfl : j = i := by omega
        rw [hx] at hy
        cases hy
        rcases fnd_cases g (r - 1) x with ⟨j, e1, e2, e3⟩ | ⟨e1, e2⟩
        · rw [e1]; rfl
        · omega
    repeat' (first|((conv=>whnf); (first|refine brK_dec (fun _=>?_) (fun _=>?_)|refine brK_ndec (fun _=>?_) (fun _=>?_)|refine brK_not (fun _=>?_) (fun _=>?_)|refine brK_in (fun _=>?_) (fun _=>?_)|refine And.intro (by first|exact rfl|exact ⟨_,rfl,rfl⟩|exact ⟨rfl,rfl,rfl⟩|exact of_decide_eq_true rfl|exact trivial|assumption|omega|(show (_ ≤ _ ∧ _ ≤ _); omega)|(simp; omega)|exact ⟨by first|omega|(simp; omega),_,rfl,rfl⟩) ?_|refine Quo.l (And.intro (by first|exact rfl|assumption|omega|(simp; omega)) ?_)|refine Quo.r (And.intro (by omega) ?_)|refine Both.mk ?_ ?_|refine Exists.intro _ (And.intro rfl ?_)|refine opt_use (by assumption) ?_|refine vrow_use (by assumption) ?_|refine vrow_in (fun _ _=>?_)|refine fun _=>?_))|exact rfl)
  · rename_i h0
    refine no (par_yes (v := ⟨r, a, p, d⟩) fun j x hx => hall j x ?_ hx)
    have := (List.getElem?_eq_some_iff.1 hx).1
    have : j < p.length := this
    omega
def c_spec_l11Vertex : Con := ⟨0, 0, false, fun xs hs _ K => match xs with
  | [.ints c, .agg [.val (.int .i64 r), .val (.int .i64 a), .ints p, .val (.int .i64 d)]] => hs = [] ∧ comV c = true ∧ p.length < 2000000 ∧ K (B (vxV c ⟨r, a, p, d⟩)) [] []
  | _ => False⟩
theorem k_spec_l11Vertex : Keeps' Try.prog 49 c_spec_l11Vertex := by
  refine keeps_of_vc mix TyT_ok (cok_cons k_spec_l6In Try.func54 rfl rfl (cok_cons k_spec_l1Members Try.func84 rfl rfl (cok_cons k_spec_l2Digest Try.func55 rfl rfl (cok_cons k_spec_l1Weight Try.func85 rfl rfl (cok_cons k_spec_l1Quorum Try.func86 rfl rfl cok_nil))))) Try.func49 rfl rfl rfl ?_
  intro aargs hs Fs K h
  simp only [c_spec_l11Vertex] at h
  split at h
  case h_2 => exact h.elim
  rename_i c r a p d
  obtain ⟨rfl, hc, hp, h⟩ := h
  obtain ⟨hc1, hc2, hcx⟩ := com_out hc
  have hcl : c.length < 2000 := by omega
  have no : ∀ {b : Bool}, vxV c ⟨r, a, p, d⟩ = b → K (B b) [] [] := fun e => by rw [← e]; exact h
  repeat' (first|((conv=>whnf); (first|refine brK_dec (fun _=>?_) (fun _=>?_)|refine brK_ndec (fun _=>?_) (fun _=>?_)|refine brK_not (fun _=>?_) (fun _=>?_)|refine brK_in (fun _=>?_) (fun _=>?_)|refine And.intro (by first|exact rfl|exact ⟨_,rfl,rfl⟩|exact ⟨rfl,rfl,rfl⟩|exact of_decide_eq_true rfl|exact trivial|assumption|omega|(show (_ ≤ _ ∧ _ ≤ _); omega)|(simp; omega)|exact ⟨by first|omega|(simp; omega),_,rfl,rfl⟩) ?_|refine Quo.l (And.intro (by first|exact rfl|assumption|omega|(simp; omega)) ?_)|refine Quo.r (And.intro (by omega) ?_)|refine Both.mk ?_ ?_|refine Exists.intro _ (And.intro rfl ?_)|refine opt_use (by assumption) ?_|refine vrow_use (by assumption) ?_|refine vrow_in (fun _ _=>?_)|refine fun _=>?_))|exact rfl)
  all_goals (refine no ?_; simp_all [vxV])
def c_spec_GraphValid : Con := ⟨0, 0, false, fun xs hs _ K => match xs with
  | [.ints c, .sl 4 rows] => hs = [] ∧ ∃ g : List VxD, rows = g.map VxD.row ∧ c.length < 2000000 ∧ g.length < 2000000 ∧ (∀ v ∈ g, v.p.length < 2000000) ∧ K (B (gV c g)) [] []
  | _ => False⟩
theorem gV_no {c : List Int} {g : List VxD} {i : Nat} (hi : i < g.length) (h : gcell c g i = false) : gV c g = false := by
  have : (List.range g.length).all (gcell c g) = false := by
    rw [List.all_eq_false]
    exact ⟨i, by simpa using hi, by simp [h]⟩
  rw [gV, this, Bool.and_false]
theorem gV_com {c : List Int} {g : List VxD} (h : comV c = false) : gV c g = false := by rw [gV, h, Bool.false_and]
theorem gV_yes {c : List Int} {g : List VxD} (hc : comV c = true) (h : ∀ i, i < g.length → gcell c g i = true) : gV c g = true := by
  rw [gV, hc, Bool.true_and, List.all_eq_true]
  intro i hi
  exact h i (by simpa using hi)
theorem gc_vx {c : List Int} {g : List VxD} {i : Nat} {v : VxD} (hv : g[i]? = some v) (h : vxV c v = false) : gcell c g i = false := by
  unfold gcell
  rw [hv]
  simp only [h, Bool.false_and]
theorem gc_first {c : List Int} {g : List VxD} {v : VxD} (hv : g[0]? = some v) : gcell c g 0 = (vxV c v && parB g v) := by
  unfold gcell
  rw [hv]
  simp only [decide_true, Bool.true_or, Bool.true_and]
theorem gc_next {c : List Int} {g : List VxD} {i : Nat} {u v : VxD} (h0 : 0 < i) (hv : g[i]? = some v) (hu : g[i - 1]? = some u) : gcell c g i = (vxV c v && (ltB u v && parB g v)) := by
  have h1 : decide (i = 0) = false := decide_eq_false (by omega)
  unfold gcell
  rw [hv]
  simp only [hu, h1, Bool.false_or]
theorem vx_small {c : List Int} {v : VxD} (h : vxV c v = true) : -9000000000000000000 ≤ v.r ∧ v.r ≤ 9000000000000000000 := by
  have := (vx_out h).1
  omega
theorem vx_eta (v : VxD) : (⟨v.r, v.a, v.p, v.d⟩ : VxD) = v := rfl
theorem k_spec_GraphValid : Keeps' Try.prog 38 c_spec_GraphValid := by
  refine keeps_of_vc mix TyT_ok (cok_cons k_spec_CommitteeValid Try.func69 rfl rfl (cok_cons k_spec_l11Vertex Try.func49 rfl rfl (cok_cons k_spec_l11Before Try.func70 rfl rfl (cok_cons k_spec_l11Parents Try.func71 rfl rfl cok_nil)))) Try.func38 rfl rfl rfl ?_
  intro aargs hs Fs K h
  simp only [c_spec_GraphValid] at h
  split at h
  case h_2 => exact h.elim
  rename_i c rows
  obtain ⟨rfl, g, rfl, hc, hg, hp, h⟩ := h
  have hlen : (g.map VxD.row).length = g.length := by simp
  have no : ∀ {b : Bool}, gV c g = b → K (B b) [] [] := fun e => by rw [← e]; exact h
  repeat' (first|((conv=>whnf); (first|refine brK_dec (fun _=>?_) (fun _=>?_)|refine brK_ndec (fun _=>?_) (fun _=>?_)|refine brK_not (fun _=>?_) (fun _=>?_)|refine brK_in (fun _=>?_) (fun _=>?_)|refine And.intro (by first|exact rfl|exact ⟨_,rfl,rfl⟩|exact ⟨rfl,rfl,rfl⟩|exact of_decide_eq_true rfl|exact trivial|assumption|omega|(show (_ ≤ _ ∧ _ ≤ _); omega)|(simp; omega)|exact ⟨by first|omega|(simp; omega),_,rfl,rfl⟩) ?_|refine Quo.l (And.intro (by first|exact rfl|assumption|omega|(simp; omega)) ?_)|refine Quo.r (And.intro (by omega) ?_)|refine Both.mk ?_ ?_|refine Exists.intro _ (And.intro rfl ?_)|refine opt_use (by assumption) ?_|refine vrow_use (by assumption) ?_|refine vrow_in (fun _ _=>?_)|refine fun _=>?_))|exact rfl)
  · rename_i hv
    exact no (gV_com hv)
  rename_i hv
  refine loop_in (ι := Nat) (fun i => mkS 48 [(0, .ints c), (1, .sl 4 (g.map VxD.row)), (4, B false), (5, I i)] [] Fs) (fun i => i ≤ g.length ∧ ∀ k, k < i → gcell c g k = true) (fun i => g.length - i) 0 [] ⟨Nat.zero_le _, fun j hj => absurd hj (by omega)⟩ ?_ ?_
  · repeat' (first|((conv=>whnf); (first|refine brK_dec (fun _=>?_) (fun _=>?_)|refine brK_ndec (fun _=>?_) (fun _=>?_)|refine brK_not (fun _=>?_) (fun _=>?_)|refine brK_in (fun _=>?_) (fun _=>?_)|refine And.intro (by first|exact rfl|exact ⟨_,rfl,rfl⟩|exact ⟨rfl,rfl,rfl⟩|exact of_decide_eq_true rfl|exact trivial|assumption|omega|(show (_ ≤ _ ∧ _ ≤ _); omega)|(simp; omega)|exact ⟨by first|omega|(simp; omega),_,rfl,rfl⟩) ?_|refine Quo.l (And.intro (by first|exact rfl|assumption|omega|(simp; omega)) ?_)|refine Quo.r (And.intro (by omega) ?_)|refine Both.mk ?_ ?_|refine Exists.intro _ (And.intro rfl ?_)|refine opt_use (by assumption) ?_|refine vrow_use (by assumption) ?_|refine vrow_in (fun _ _=>?_)|refine fun _=>?_))|exact rfl)
  intro i ⟨hi, hall⟩
  repeat' (first|((conv=>whnf); (first|refine draw_plan (id := 6) [] [] (.take 0 (.take 1 (.take 2 (.take 3 (.take 4 (.run 5 (.take 6 (.take 7 (.take 8 (.take 9 (.take 10 (.take 11 (.take 12 (.take 13 (.take 14 (.take 15 (.take 16 (.take 17 (.take 18 (.take 19 (.run 20 (.take 21 (.take 22 (.take 23 (.take 24 (.take 25 (.take 26 (.take 27 (.take 28 (.take 29 (.run 30 (.take 31 (.take 32 .done))))))))))))))))))))))))))))))))) (by kernel_rfl) (by kernel_rfl) ?_|refine brK_dec (fun _=>?_) (fun _=>?_)|refine brK_ndec (fun _=>?_) (fun _=>?_)|refine brK_not (fun _=>?_) (fun _=>?_)|refine brK_in (fun _=>?_) (fun _=>?_)|refine And.intro (by first|exact rfl|exact (by first|exact hp _ (List.mem_of_getElem? (by assumption))|exact vx_small (by assumption))|exact ⟨_,rfl,rfl⟩|exact ⟨rfl,rfl,rfl⟩|exact of_decide_eq_true rfl|exact trivial|assumption|omega|(show (_ ≤ _ ∧ _ ≤ _); omega)|(simp; omega)|exact ⟨by first|omega|(simp; omega),_,rfl,rfl⟩) ?_|refine Quo.l (And.intro (by first|exact rfl|exact (by first|exact hp _ (List.mem_of_getElem? (by assumption))|exact vx_small (by assumption))|assumption|omega|(simp; omega)) ?_)|refine Quo.r (And.intro (by omega) ?_)|refine Both.mk ?_ ?_|refine Exists.intro _ (And.intro rfl ?_)|refine opt_use (by assumption) ?_|refine vrow_use (by assumption) ?_|refine vrow_in (fun _ _=>?_)|refine fun _=>?_))|exact rfl)
  · rename_i h0 v hv e
    exact no (gV_no (by omega) (gc_vx (v := v) hv e))
  · rename_i h0 v hv e h1 u hu e2
    have e1 : ((i : Int) - 1).toNat = i - 1 := by omega
    rw [e1] at hu
    have hv : g[i]? = some v := hv
    refine no (gV_no (i := i) (by omega) ?_)
    rw [gc_next (by omega) hv hu]
    have e2 : ltB u v = false := e2
    rw [e2]
    simp
  · rename_i h0 v hv e h1 u hu e2 e3
    have e1 : ((i : Int) - 1).toNat = i - 1 := by omega
    rw [e1] at hu
    have hv : g[i]? = some v := hv
    refine no (gV_no (i := i) (by omega) ?_)
    rw [gc_next (by omega) hv hu]
    have e3 : parB g v = false := e3
    rw [e3]
    simp
  · rename_i h0 v hv e h1 u hu e2 e3
    have e1 : ((i : Int) - 1).toNat = i - 1 := by omega
    rw [e1] at hu
    have hv : g[i]? = some v := hv
    have hc : gcell c g i = true := by
      rw [gc_next (by omega) hv hu]
      have e : vxV c v = true := e
      have e2 : ltB u v = true := e2
      have e3 : parB g v = true := e3
      rw [e, e2, e3]
      rfl
    refine ⟨i + 1, [], ⟨by omega, fun j hj => ?_⟩, by omega, ?_⟩
    · rcases Nat.lt_or_ge j i with h1 | h1
      · exact hall j h1
      · rw [show j = i by omega]; exact hc
    repeat' (first|((conv=>whnf); (first|refine brK_dec (fun _=>?_) (fun _=>?_)|refine brK_ndec (fun _=>?_) (fun _=>?_)|refine brK_not (fun _=>?_) (fun _=>?_)|refine brK_in (fun _=>?_) (fun _=>?_)|refine And.intro (by first|exact rfl|exact ⟨_,rfl,rfl⟩|exact ⟨rfl,rfl,rfl⟩|exact of_decide_eq_true rfl|exact trivial|assumption|omega|(show (_ ≤ _ ∧ _ ≤ _); omega)|(simp; omega)|exact ⟨by first|omega|(simp; omega),_,rfl,rfl⟩) ?_|refine Quo.l (And.intro (by first|exact rfl|assumption|omega|(simp; omega)) ?_)|refine Quo.r (And.intro (by omega) ?_)|refine Both.mk ?_ ?_|refine Exists.intro _ (And.intro rfl ?_)|refine opt_use (by assumption) ?_|refine vrow_use (by assumption) ?_|refine vrow_in (fun _ _=>?_)|refine fun _=>?_))|exact rfl)
  · rename_i h0 v hv e h1 e3
    obtain rfl : i = 0 := by omega
    have hv : g[0]? = some v := hv
    refine no (gV_no (i := 0) (by omega) ?_)
    rw [gc_first hv]
    have e3 : parB g v = false := e3
    rw [e3]
    simp
  · rename_i h0 v hv e h1 e3
    obtain rfl : i = 0 := by omega
    have hv : g[0]? = some v := hv
    have hc : gcell c g 0 = true := by
      rw [gc_first hv]
      have e : vxV c v = true := e
      have e3 : parB g v = true := e3
      rw [e, e3]
      rfl
    refine ⟨0 + 1, [], ⟨by omega, fun j hj => ?_⟩, by omega, ?_⟩
    · rw [show j = 0 by omega]; exact hc
    repeat' (first|((conv=>whnf); (first|refine brK_dec (fun _=>?_) (fun _=>?_)|refine brK_ndec (fun _=>?_) (fun _=>?_)|refine brK_not (fun _=>?_) (fun _=>?_)|refine brK_in (fun _=>?_) (fun _=>?_)|refine And.intro (by first|exact rfl|exact ⟨_,rfl,rfl⟩|exact ⟨rfl,rfl,rfl⟩|exact of_decide_eq_true rfl|exact trivial|assumption|omega|(show (_ ≤ _ ∧ _ ≤ _); omega)|(simp; omega)|exact ⟨by first|omega|(simp; omega),_,rfl,rfl⟩) ?_|refine Quo.l (And.intro (by first|exact rfl|assumption|omega|(simp; omega)) ?_)|refine Quo.r (And.intro (by omega) ?_)|refine Both.mk ?_ ?_|refine Exists.intro _ (And.intro rfl ?_)|refine opt_use (by assumption) ?_|refine vrow_use (by assumption) ?_|refine vrow_in (fun _ _=>?_)|refine fun _=>?_))|exact rfl)
  · rename_i h0
    exact no (gV_yes hv fun j hj => hall j (by omega))
end Go.Proofs.Ytalbgcpfekmfoaa
namespace Go.Proofs.Ytalbgcpfekmfoaa
open Go Go.Vc
set_option maxHeartbeats 1000000
set_option maxRecDepth 10000
abbrev boolRows (b : List Bool) : List (List AV) := b.map fun x => [B x]
theorem brow_in {b : List Bool} {n : Nat} {P : List AV → Prop} (h : ∀ x, b[n]? = some x → P [B x]) : ∀ e, (boolRows b)[n]? = some e → P e := by
  intro e he
  rw [List.getElem?_map] at he
  obtain ⟨v, hv, rfl⟩ := Option.map_eq_some_iff.1 he
  exact h v hv
theorem brow_use {b : List Bool} {n : Nat} {x : Bool} {P : List AV → Prop} (hx : b[n]? = some x) (h : P [B x]) : ∀ e, (boolRows b)[n]? = some e → P e :=
  brow_in fun u hu => by
    rw [hx] at hu
    cases hu
    exact h
theorem brow_set {b : List Bool} {n : Nat} {x : Bool} : (boolRows b).set n [B x] = boolRows (b.set n x) := by
  simp [boolRows, List.map_set]
def leadersV (c L : List Int) : Bool := L.all (fun x => inR x 0 ((c.length : Int) - 1)) && decide (L.length ≤ 15)
def c_spec_l21Leaders : Con := ⟨0, 0, false, fun xs hs _ K => match xs with
  | [.ints c, .ints L] => hs = [] ∧ c.length < 2000000 ∧ L.length < 2000000 ∧ K (B (leadersV c L)) [] []
  | _ => False⟩
def c_spec_LeadersValid : Con := ⟨0, 0, false, fun xs hs _ K => match xs with
  | [.ints c, .ints L] => hs = [] ∧ c.length < 2000000 ∧ L.length < 2000000 ∧ K (B (comV c && leadersV c L)) [] []
  | _ => False⟩
def c_spec_l21Ok : Con := ⟨0, 0, false, fun xs hs _ K => match xs with
  | [.ints c, .sl 4 rows, .ints L] => hs = [] ∧ ∃ g : List VxD, rows = g.map VxD.row ∧ c.length < 2000000 ∧ g.length < 2000000 ∧ (∀ v ∈ g, v.p.length < 2000000) ∧ L.length < 2000000 ∧ K (B (gV c g && leadersV c L)) [] []
  | _ => False⟩
/-- The index of the leader's vertex of a wave, or -1. -/
def leadI (g : List VxD) (L : List Int) (n : Nat) : Int := fndI g (2 * n - 1) (L.getD (n - 1) 0)
theorem lead_cases (g : List VxD) (L : List Int) {n : Nat} (h0 : 1 ≤ n) (h1 : n ≤ L.length) : (∃ i, leadV g L n = some i ∧ leadI g L n = (i : Int) ∧ i < g.length) ∨ (leadV g L n = none ∧ leadI g L n = -1) := by
  have hl : L[n - 1]? = some (L.getD (n - 1) 0) := by
    rw [List.getD_eq_getElem?_getD, List.getElem?_eq_getElem (by omega)]
    rfl
  have e : leadV g L n = findV g (2 * n - 1) (L.getD (n - 1) 0) := by
    unfold leadV
    rw [if_neg (by omega), hl]
  unfold leadI
  rw [e]
  exact fnd_cases _ _ _
def c_spec_l21Leader : Con := ⟨0, 0, false, fun xs hs _ K => match xs with
  | [.sl 4 rows, .ints L, .val (.int .i64 w)] => hs = [] ∧ ∃ g : List VxD, rows = g.map VxD.row ∧ g.length < 2000000 ∧ L.length < 2000000 ∧ ∃ n : Nat, w = n ∧ 1 ≤ n ∧ n ≤ L.length ∧ K (I (leadI g L n)) [] []
  | _ => False⟩
end Go.Proofs.Ytalbgcpfekmfoaa
namespace Go.Proofs.Ytalbgcpfekmfoaa
open Go Go.Vc
set_option maxHeartbeats 2000000
set_option maxRecDepth 10000
theorem rep_in {α : Type} {n i : Nat} {r : α} {P : α → Prop} (h : P r) : ∀ e, (List.replicate n r)[i]? = some e → P e := by
  intro e he
  rw [List.getElem?_replicate] at he
  split at he
  · cases he; exact h
  · cases he
theorem bool_set0 {n s : Nat} {x : Bool} : boolRows ((List.replicate n false).set s x) = (List.replicate n [B false]).set s [B x] := by
  rw [← brow_set, boolRows, List.map_replicate]
theorem set_is {b : List Bool} {k j : Nat} (h : j < b.length) (e : j = k) : (b.set k true)[j]? = some true := by
  subst e
  simp [h]
/-- The marks while vertex n's parents are looked at: those of the first k. -/
structure Dwk (g : List VxD) (s : Nat) (b : List Bool) (n k : Nat) (v : VxD) : Prop where
  dwn : Dwn g s b (n + 1)
  at_ : g[n]? = some v
  mark : ∀ (j : Nat) x i, j < k → v.p[j]? = some x → findV g (v.r - 1) x = some i → b[i]? = some true
theorem dwk_end {g : List VxD} {s : Nat} {b : List Bool} {n k : Nat} {v : VxD} (h : Dwk g s b n k v) (hk : v.p.length ≤ k ∨ b[n]? = some false) : Dwn g s b n := by
  refine dwn_next h.dwn fun hn j hj => ?_
  rcases hk with hk | hk
  · unfold parI at hj
    rw [h.at_] at hj
    obtain ⟨x, hx, hf⟩ := List.mem_filterMap.1 hj
    obtain ⟨i, hi⟩ := List.mem_iff_getElem?.1 hx
    exact h.mark i x j (by have := (List.getElem?_eq_some_iff.1 hi).1; omega) hi hf
  · rw [hn] at hk
    cases hk
theorem dwk_next {g : List VxD} (hs : sortedV g) {s : Nat} {b : List Bool} {n k i : Nat} {v : VxD} {x : Int} (h : Dwk g s b n k v) (hn : b[n]? = some true) (hx : v.p[k]? = some x) (hf : findV g (v.r - 1) x = some i) : Dwk g s (b.set i true) n (k + 1) v := by
  have hj : i ∈ parI g n := par_mem h.at_ (List.mem_of_getElem? hx) hf
  refine ⟨dwn_mark hs h.dwn hn hj, h.at_, fun j y m hjk hy hm => ?_⟩
  rcases Nat.lt_or_ge j k with h1 | h1
  · exact set_true (h.mark j y m h1 hy hm)
  · obtain rfl : j = k := by omega
    rw [hx] at hy
    cases hy
    rw [hf] at hm
    cases hm
    obtain ⟨u, hu, _⟩ := find_out hf
    exact set_is (by rw [h.dwn.len]; exact (List.getElem?_eq_some_iff.1 hu).1) rfl
theorem dwn_zero {g : List VxD} {s : Nat} {b : List Bool} (h : Dwn g s b 0) : b = pastV g s := dwn_done h
noncomputable def pastO (g : List VxD) (o : Option Nat) : List Bool := match o with
  | some s => pastV g s
  | none => List.replicate g.length false
def optI : Option Nat → Int
  | some s => s
  | none => -1
def c_spec_l11Past : Con := ⟨1, 0, true, fun xs hs _ K => match xs with
  | [.sl 4 rows, .val (.int .i64 w)] => hs = [] ∧ ∃ g : List VxD, rows = g.map VxD.row ∧ ∃ c, gV c g = true ∧ g.length < 2000000 ∧ (∀ v ∈ g, v.p.length < 2000000) ∧ ∃ o : Option Nat, w = optI o ∧ (∀ s, o = some s → s < g.length) ∧ K (.own 0) [.arr 1 (boolRows (pastO g o))] []
  | _ => False⟩
theorem bool_zero (n : Nat) : boolRows (List.replicate n false) = List.replicate n [B false] := by simp [boolRows]
end Go.Proofs.Ytalbgcpfekmfoaa
namespace Go.Proofs.Ytalbgcpfekmfoaa
open Go Go.Vc
set_option maxHeartbeats 4000000
set_option maxRecDepth 10000
def sup (c : List Int) : Int := c.sum / 3 + 1
def c_spec_l1Support : Con := ⟨0, 0, false, fun xs hs _ K => match xs with
  | [.ints c] => hs = [] ∧ comV c = true ∧ K (I (sup c)) [] []
  | _ => False⟩
theorem sup_rng {c : List Int} (h : comV c = true) : 1 ≤ sup c ∧ sup c ≤ 10000 ∧ 0 ≤ c.sum := by
  obtain ⟨h1, h2, h3⟩ := com_out h
  have := sum_bound c h3
  unfold sup
  omega
def votI (c : List Int) (g : List VxD) (L : List Int) (n : Nat) : Int := if hasV g L n = true then votS c (2 * n) (L.getD (n - 1) 0) g else 0
theorem gV_comV {c : List Int} {g : List VxD} (h : gV c g = true) : comV c = true := by
  unfold gV at h
  rw [Bool.and_eq_true] at h
  exact h.1
theorem dir_vot {c : List Int} {g : List VxD} {L : List Int} {n : Nat} (hv : gV c g = true) : dirV c g L n = true ↔ sup c ≤ votI c g L n := by
  have h1 := (sup_rng (gV_comV hv)).1
  unfold dirV votI
  cases hh : hasV g L n with
  | false => simp; omega
  | true =>
    rw [votS_eq (gV_sorted hv) (gV_auth hv)]
    simp [sup]
theorem votS_bound {c : List Int} {r l : Int} (hc : ∀ x ∈ c, 0 ≤ x ∧ x ≤ 999) : ∀ g : List VxD, 0 ≤ votS c r l g ∧ votS c r l g ≤ 999 * g.length
  | [] => by simp [votS]
  | v :: g => by
    have h := votS_bound (r := r) (l := l) hc g
    have h1 : 0 ≤ c.getD v.a.toNat 0 ∧ c.getD v.a.toNat 0 ≤ 999 := by
      rcases Nat.lt_or_ge v.a.toNat c.length with hl | hl
      · have := hc c[v.a.toNat] (List.getElem_mem hl)
        simpa [List.getD, hl] using this
      · simp [List.getD, hl]
    unfold votS
    simp only [List.length_cons]
    split <;> omega
theorem votS_none {c : List Int} {g : List VxD} {r l : Int} (h : g = []) : votS c r l g = 0 := by subst h; rfl
theorem votS_yes {c : List Int} {r l : Int} {g : List VxD} {i : Nat} {v : VxD} {x : Int} (hv : g[i]? = some v) (h1 : v.r = r) (h2 : l ∈ v.p) (hx : c[v.a.toNat]? = some x) : votS c r l (g.take (i + 1)) = votS c r l (g.take i) + x := by
  have e : c.getD v.a.toNat 0 = x := by rw [List.getD_eq_getElem?_getD, hx]; rfl
  rw [votS_take hv, if_pos ⟨h1, h2⟩, e]
theorem votS_no {c : List Int} {r l : Int} {g : List VxD} {i : Nat} {v : VxD} (hv : g[i]? = some v) (h : ¬ (v.r = r ∧ l ∈ v.p)) : votS c r l (g.take (i + 1)) = votS c r l (g.take i) := by
  rw [votS_take hv, if_neg h]
  omega
theorem has_pos {g : List VxD} {L : List Int} {n : Nat} (n0 : 1 ≤ n) (n1 : n ≤ L.length) : (0 ≤ leadI g L n → hasV g L n = true) ∧ (¬ 0 ≤ leadI g L n → hasV g L n = false) := by
  rcases lead_cases g L n0 n1 with ⟨i, e1, e2, e3⟩ | ⟨e1, e2⟩
  · refine ⟨fun _ => by rw [hasV, e1]; rfl, fun h => by omega⟩
  · refine ⟨fun h => by omega, fun _ => by rw [hasV, e1]; rfl⟩
def c_spec_l21Votes : Con := ⟨0, 0, false, fun xs hs _ K => match xs with
  | [.ints c, .sl 4 rows, .ints L, .val (.int .i64 w)] => hs = [] ∧ ∃ g : List VxD, rows = g.map VxD.row ∧ gV c g = true ∧ g.length < 2000000 ∧ (∀ v ∈ g, v.p.length < 2000000) ∧ L.length < 2000000 ∧ ∃ n : Nat, w = n ∧ 1 ≤ n ∧ n ≤ L.length ∧ K (I (votI c g L n)) [] []
  | _ => False⟩
theorem past_get {g : List VxD} {s j : Nat} {x : Bool} (h : (pastV g s)[j]? = some x) : x = true ↔ Reach g s j := by
  unfold pastV at h
  rw [List.getElem?_map] at h
  obtain ⟨k, hk, rfl⟩ := Option.map_eq_some_iff.1 h
  have : k = j := by
    have := (List.getElem?_eq_some_iff.1 hk).1
    rw [List.getElem?_range (by simpa using this)] at hk
    exact (Option.some.inj hk).symm
  subst this
  simp
theorem past_len {g : List VxD} {s : Nat} : (pastV g s).length = g.length := by simp [pastV]
abbrev natI (l : List Nat) : List Int := List.map (fun n : Nat => (n : Int)) l
variable {has : Nat → Bool} {R : Nat → Nat → Bool} {dir : Nat → Bool} in
theorem dn_yes {cur x last : Nat} (h : last < x + 1) (hh : has (x + 1) = true) (hr : R cur (x + 1) = true) : dnW has R cur (x + 1) last = dnW has R (x + 1) x last ++ [x + 1] := by
  conv => lhs; unfold dnW
  rw [if_neg (by omega), if_pos (by rw [hh, hr]; rfl)]
variable {has : Nat → Bool} {R : Nat → Nat → Bool} {dir : Nat → Bool} in
theorem dn_no {cur x last : Nat} (h : last < x + 1) (hh : has (x + 1) = false ∨ R cur (x + 1) = false) : dnW has R cur (x + 1) last = dnW has R cur x last := by
  conv => lhs; unfold dnW
  rw [if_neg (by omega), if_neg (by rcases hh with e | e <;> rw [e] <;> simp)]
variable {has : Nat → Bool} {R : Nat → Nat → Bool} {dir : Nat → Bool} in
theorem dn_end {cur x last : Nat} (h : x ≤ last) : dnW has R cur x last = [] := by
  cases x with
  | zero => rfl
  | succ x => unfold dnW; rw [if_pos h]
variable {has : Nat → Bool} {R : Nat → Nat → Bool} {dir : Nat → Bool} in
theorem cm_yes {n : Nat} (h : dir (n + 1) = true) : cmW has R dir (n + 1) = ((cmW has R dir n).1 ++ chW has R (n + 1) (cmW has R dir n).2, n + 1) := by
  conv => lhs; unfold cmW
  rw [if_pos h]
variable {has : Nat → Bool} {R : Nat → Nat → Bool} {dir : Nat → Bool} in
theorem cm_skip {n : Nat} (h : dir (n + 1) = false) : cmW has R dir (n + 1) = cmW has R dir n := by
  conv => lhs; unfold cmW
  rw [if_neg (by rw [h]; simp)]
noncomputable def wavL (c : List Int) (g : List VxD) (L : List Int) (n : Nat) : List Nat × Nat := cmW (hasV g L) (linkV g L) (dirV c g L) n
theorem wav_len {c : List Int} {g : List VxD} {L : List Int} {n : Nat} : (wavL c g L n).1.length ≤ n ∧ (wavL c g L n).2 ≤ n := by
  have h1 := cm_asc (has := hasV g L) (R := linkV g L) (dir := dirV c g L) dir_has (n := n)
  have h2 : ∀ y ∈ (wavL c g L n).1, 0 < y ∧ y ≤ (wavL c g L n).2 ∧ hasV g L y = true := fun y hy => cm_mem dir_has hy
  have h3 := (cm_last (has := hasV g L) (R := linkV g L) (dir := dirV c g L) (n := n)).1
  refine ⟨?_, h3⟩
  have key : ∀ (l : List Nat) (m : Nat), l.Pairwise (· < ·) → (∀ y ∈ l, m < y ∧ y ≤ n) → l.length ≤ n - m := by
    intro l
    induction l with
    | nil => intro m _ _; simp
    | cons a l ih =>
      intro m hp hy
      have ha := hy a (by simp)
      have := ih a (List.pairwise_cons.1 hp).2 fun y hyl => ⟨(List.pairwise_cons.1 hp).1 y hyl, (hy y (by simp [hyl])).2⟩
      simp
      omega
  have := key _ 0 h1 fun y hy => by
    have := h2 y hy
    have h3 : (wavL c g L n).2 ≤ n := h3
    omega
  simpa [wavL] using this
def c_spec_l21Waves : Con := ⟨1, 0, false, fun xs hs _ K => match xs with
  | [.ints c, .sl 4 rows, .ints L] => hs = [] ∧ ∃ g : List VxD, rows = g.map VxD.row ∧ gV c g = true ∧ g.length < 2000000 ∧ (∀ v ∈ g, v.p.length < 2000000) ∧ L.length ≤ 15 ∧ K (.own 0) [.iarr (natI (outV c g L))] []
  | _ => False⟩
noncomputable def wavI (c : List Int) (g : List VxD) (L : List Int) : List Int := if (gV c g && leadersV c L) = true then natI (outV c g L) else []
def c_spec_CommitWaves : Con := ⟨1, 0, false, fun xs hs _ K => match xs with
  | [.ints c, .sl 4 rows, .ints L] => hs = [] ∧ ∃ g : List VxD, rows = g.map VxD.row ∧ c.length < 2000000 ∧ g.length < 2000000 ∧ (∀ v ∈ g, v.p.length < 2000000) ∧ L.length < 2000000 ∧ K (.own 0) [.iarr (wavI c g L)] []
  | _ => False⟩
theorem leaders_len {c L : List Int} (h : leadersV c L = true) : L.length ≤ 15 := by
  unfold leadersV at h
  rw [Bool.and_eq_true] at h
  exact of_decide_eq_true h.2
theorem and1 {a b : Bool} (h : (a && b) = true) : a = true := by rw [Bool.and_eq_true] at h; exact h.1
theorem and2 {a b : Bool} (h : (a && b) = true) : b = true := by rw [Bool.and_eq_true] at h; exact h.2
end Go.Proofs.Ytalbgcpfekmfoaa
