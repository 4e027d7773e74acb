/-
Votes and committed waves, by the reference.
No conditions.
-/
import Derived.Test.YtenflffikgfphaaDoorWgC
import Derived.Test.YtenflffikgfphaaDoorWyP
namespace Go.Proofs.YtenflffikgfphaaDoor
open Go Go.Vc
set_option maxHeartbeats 4000000
set_option maxRecDepth 10000
def sup (c : List Int) : Int := c.sum / 3 + 1
def c_spec_l1Support : Con := ⟨0, 0, false, fun xs hs _ K => match xs with
  | [.ints c] => hs = [] ∧ comV c = true ∧ K (I (sup c)) [] []
  | _ => False⟩
theorem sup_rng {c : List Int} (h : comV c = true) : 1 ≤ sup c ∧ sup c ≤ 10000 ∧ 0 ≤ c.sum := by
  obtain ⟨h1, h2, h3⟩ := com_out h
  have := sum_bound c h3
  unfold sup
  omega
theorem k_spec_l1Support : Keeps' Tryd.prog 45 c_spec_l1Support := by
  refine keeps_of_vc mix TyT_ok (cok_cons k_spec_l1Total Tryd.func71 rfl rfl cok_nil) Tryd.func45 rfl rfl rfl ?_
  intro aargs hs Fs K h
  simp only [c_spec_l1Support] at h
  split at h
  case h_2 => exact h.elim
  rename_i c
  obtain ⟨rfl, hc, h⟩ := h
  obtain ⟨h1, h2, h3⟩ := com_out hc
  have h4 := sup_rng hc
  have h5 := sum_bound c h3
  have hl : c.length < 2000 := by omega
  repeat' (first
    | ((conv => whnf); (first
      | refine brK_dec (fun _ => ?_) (fun _ => ?_)
      | refine brK_ndec (fun _ => ?_) (fun _ => ?_)
      | refine brK_not (fun _ => ?_) (fun _ => ?_)
      | refine brK_in (fun _ => ?_) (fun _ => ?_)
      | refine And.intro (by first | exact rfl | exact ⟨_, rfl, rfl⟩ | exact ⟨rfl, rfl, rfl⟩ | exact of_decide_eq_true rfl | exact trivial | assumption | omega | (show (_ ≤ _ ∧ _ ≤ _); omega) | (simp; omega) | exact ⟨by first | omega | (simp; omega), _, rfl, rfl⟩) ?_
      | refine Both.mk ?_ ?_
      | refine Exists.intro _ (And.intro rfl ?_)
      | refine rep_in ?_
      | refine opt_use (by assumption) ?_
      | refine vrow_use (by assumption) ?_
      | refine vrow_in (fun _ _ => ?_)
      | refine brow_use (by assumption) ?_
      | refine brow_in (fun _ _ => ?_)
      | refine fun _ => ?_))
    | exact rfl)
  exact h
def votI (c : List Int) (g : List VxD) (L : List Int) (n : Nat) : Int := if hasV g L n = true then votS c (2 * n) (L.getD (n - 1) 0) g else 0
theorem gV_comV {c : List Int} {g : List VxD} (h : gV c g = true) : comV c = true := by
  unfold gV at h
  rw [Bool.and_eq_true] at h
  exact h.1
theorem dir_vot {c : List Int} {g : List VxD} {L : List Int} {n : Nat} (hv : gV c g = true) : dirV c g L n = true ↔ sup c ≤ votI c g L n := by
  have h1 := (sup_rng (gV_comV hv)).1
  unfold dirV votI
  cases hh : hasV g L n with
  | false => simp; omega
  | true =>
    rw [votS_eq (gV_sorted hv) (gV_auth hv)]
    simp [sup]
theorem votS_bound {c : List Int} {r l : Int} (hc : ∀ x ∈ c, 0 ≤ x ∧ x ≤ 999) : ∀ g : List VxD, 0 ≤ votS c r l g ∧ votS c r l g ≤ 999 * g.length
  | [] => by simp [votS]
  | v :: g => by
    have h := votS_bound (r := r) (l := l) hc g
    have h1 : 0 ≤ c.getD v.a.toNat 0 ∧ c.getD v.a.toNat 0 ≤ 999 := by
      rcases Nat.lt_or_ge v.a.toNat c.length with hl | hl
      · have := hc c[v.a.toNat] (List.getElem_mem hl)
        simpa [List.getD, hl] using this
      · simp [List.getD, hl]
    unfold votS
    simp only [List.length_cons]
    split <;> omega
theorem votS_none {c : List Int} {g : List VxD} {r l : Int} (h : g = []) : votS c r l g = 0 := by subst h; rfl
theorem votS_yes {c : List Int} {r l : Int} {g : List VxD} {i : Nat} {v : VxD} {x : Int} (hv : g[i]? = some v) (h1 : v.r = r) (h2 : l ∈ v.p) (hx : c[v.a.toNat]? = some x) : votS c r l (g.take (i + 1)) = votS c r l (g.take i) + x := by
  have e : c.getD v.a.toNat 0 = x := by rw [List.getD_eq_getElem?_getD, hx]; rfl
  rw [votS_take hv, if_pos ⟨h1, h2⟩, e]
theorem votS_no {c : List Int} {r l : Int} {g : List VxD} {i : Nat} {v : VxD} (hv : g[i]? = some v) (h : ¬ (v.r = r ∧ l ∈ v.p)) : votS c r l (g.take (i + 1)) = votS c r l (g.take i) := by
  rw [votS_take hv, if_neg h]
  omega
theorem has_pos {g : List VxD} {L : List Int} {n : Nat} (n0 : 1 ≤ n) (n1 : n ≤ L.length) : (0 ≤ leadI g L n → hasV g L n = true) ∧ (¬ 0 ≤ leadI g L n → hasV g L n = false) := by
  rcases lead_cases g L n0 n1 with ⟨i, e1, e2, e3⟩ | ⟨e1, e2⟩
  · refine ⟨fun _ => by rw [hasV, e1]; rfl, fun h => by omega⟩
  · refine ⟨fun h => by omega, fun _ => by rw [hasV, e1]; rfl⟩
def c_spec_l21Votes : Con := ⟨0, 0, false, fun xs hs _ K => match xs with
  | [.ints c, .sl 4 rows, .ints L, .val (.int .i64 w)] => hs = [] ∧ ∃ g : List VxD, rows = g.map VxD.row ∧ gV c g = true ∧ g.length < 2000000 ∧ (∀ v ∈ g, v.p.length < 2000000) ∧ L.length < 2000000 ∧ ∃ n : Nat, w = n ∧ 1 ≤ n ∧ n ≤ L.length ∧ K (I (votI c g L n)) [] []
  | _ => False⟩
theorem k_spec_l21Votes : Keeps' Tryd.prog 44 c_spec_l21Votes := by
  refine keeps_of_vc mix TyT_ok (cok_cons k_spec_l21Leader Tryd.func47 rfl rfl (cok_cons k_spec_l1Has Tryd.func70 rfl rfl cok_nil)) Tryd.func44 rfl rfl rfl ?_
  intro aargs hs Fs K h
  simp only [c_spec_l21Votes] at h
  split at h
  case h_2 => exact h.elim
  rename_i c rows L w
  obtain ⟨rfl, g, rfl, hv, hg, hp, hL, n, rfl, n0, n1, h⟩ := h
  have hlen : (g.map VxD.row).length = g.length := by simp
  have hc := gV_comV hv
  obtain ⟨hc1, hc2, hcx⟩ := com_out hc
  have ha := gV_auth hv
  have hl : L[n - 1]? = some (L.getD (n - 1) 0) := by
    rw [List.getD_eq_getElem?_getD, List.getElem?_eq_getElem (by omega)]
    rfl
  have hl2 : L[((n : Int) - 1).toNat]? = some (L.getD (n - 1) 0) := by rw [show ((n : Int) - 1).toNat = n - 1 by omega]; exact hl
  repeat' (first
    | ((conv => whnf); (first
      | refine brK_dec (fun _ => ?_) (fun _ => ?_)
      | refine brK_ndec (fun _ => ?_) (fun _ => ?_)
      | refine brK_not (fun _ => ?_) (fun _ => ?_)
      | refine brK_in (fun _ => ?_) (fun _ => ?_)
      | refine And.intro (by first | exact rfl | exact ⟨_, rfl, rfl⟩ | exact ⟨rfl, rfl, rfl⟩ | exact of_decide_eq_true rfl | exact trivial | assumption | omega | (show (_ ≤ _ ∧ _ ≤ _); omega) | (simp; omega) | exact ⟨by first | omega | (simp; omega), _, rfl, rfl⟩) ?_
      | refine Both.mk ?_ ?_
      | refine Exists.intro _ (And.intro rfl ?_)
      | refine rep_in ?_
      | refine opt_use (by assumption) ?_
      | refine vrow_use (by assumption) ?_
      | refine vrow_in (fun _ _ => ?_)
      | refine brow_use (by assumption) ?_
      | refine brow_in (fun _ _ => ?_)
      | refine fun _ => ?_))
    | exact rfl)
  refine loop_in (ι := Nat) (fun i => mkS 56 [(0, .ints c), (1, .sl 4 (g.map VxD.row)), (2, .ints L), (3, I n), (8, I 0), (9, I (votS c (2 * n) (L.getD (n - 1) 0) (g.take i))), (10, I i)] [] Fs)
    (fun i => i ≤ g.length ∧ (0 < i → hasV g L n = true)) (fun i => g.length - i) 0 [] ⟨Nat.zero_le _, fun j => absurd j (by omega)⟩ ?_ ?_
  · repeat' (first
      | ((conv => whnf); (first
        | refine brK_dec (fun _ => ?_) (fun _ => ?_)
        | refine brK_ndec (fun _ => ?_) (fun _ => ?_)
        | refine brK_not (fun _ => ?_) (fun _ => ?_)
        | refine brK_in (fun _ => ?_) (fun _ => ?_)
        | refine And.intro (by first | exact rfl | exact (by simp [votS]) | exact ⟨_, rfl, rfl⟩ | exact ⟨rfl, rfl, rfl⟩ | exact of_decide_eq_true rfl | exact trivial | assumption | omega | (show (_ ≤ _ ∧ _ ≤ _); omega) | (simp; omega) | exact ⟨by first | omega | (simp; omega), _, rfl, rfl⟩) ?_
        | refine Both.mk ?_ ?_
        | refine Exists.intro _ (And.intro rfl ?_)
        | refine rep_in ?_
        | refine opt_use (by assumption) ?_
        | refine vrow_use (by assumption) ?_
        | refine vrow_in (fun _ _ => ?_)
        | refine brow_use (by assumption) ?_
        | refine brow_in (fun _ _ => ?_)
        | refine fun _ => ?_))
      | exact rfl)
  intro i ⟨hi, hh⟩
  have hb := votS_bound (r := 2 * n) (l := L.getD (n - 1) 0) hcx (g.take i)
  have hbl : (g.take i).length ≤ i := by simp; omega
  repeat' (first
    | ((conv => whnf); (first
      | refine draw_plan (id := 5) [] [] (.take 0 (.take 1 (.take 2 (.take 3 (.take 4 (.take 5 (.take 6 (.take 7 (.take 8 (.take 9 (.take 10 (.take 11 (.take 12 (.take 13 (.take 14 (.take 15 (.take 16 (.take 17 (.take 18 (.run 19 (.take 20 .done))))))))))))))))))))) (by kernel_rfl) (by kernel_rfl) ?_
      | refine brK_dec (fun _ => ?_) (fun _ => ?_)
      | refine brK_ndec (fun _ => ?_) (fun _ => ?_)
      | refine brK_not (fun _ => ?_) (fun _ => ?_)
      | refine brK_in (fun _ => ?_) (fun _ => ?_)
      | refine And.intro (by first | exact rfl | exact (by first | exact (ha _ (List.mem_of_getElem? (by assumption))).1 | exact (ha _ (List.mem_of_getElem? (by assumption))).2 | exact hp _ (List.mem_of_getElem? (by assumption))) | exact ⟨_, rfl, rfl⟩ | exact ⟨rfl, rfl, rfl⟩ | exact of_decide_eq_true rfl | exact trivial | assumption | omega | (show (_ ≤ _ ∧ _ ≤ _); omega) | (simp; omega) | exact ⟨by first | omega | (simp; omega), _, rfl, rfl⟩) ?_
      | refine Both.mk ?_ ?_
      | refine Exists.intro _ (And.intro rfl ?_)
      | refine rep_in ?_
      | refine opt_use (by assumption) ?_
      | refine vrow_use (by assumption) ?_
      | refine vrow_in (fun _ _ => ?_)
      | refine brow_use (by assumption) ?_
      | refine brow_in (fun _ _ => ?_)
      | refine fun _ => ?_))
    | exact rfl)
  · rename_i h0 hge v hv e1 e2 x hx
    have hv : g[i]? = some v := hv
    have e := votS_yes (r := 2 * (n : Int)) (l := L.getD (n - 1) 0) hv e1 e2 hx
    have hx2 := hcx x (List.mem_of_getElem? hx)
    repeat' (first
      | ((conv => whnf); (first
        | refine brK_dec (fun _ => ?_) (fun _ => ?_)
        | refine brK_ndec (fun _ => ?_) (fun _ => ?_)
        | refine brK_not (fun _ => ?_) (fun _ => ?_)
        | refine brK_in (fun _ => ?_) (fun _ => ?_)
        | refine And.intro (by first | exact rfl | exact ⟨_, rfl, rfl⟩ | exact ⟨rfl, rfl, rfl⟩ | exact of_decide_eq_true rfl | exact trivial | assumption | omega | (show (_ ≤ _ ∧ _ ≤ _); omega) | (simp; omega) | exact ⟨by first | omega | (simp; omega), _, rfl, rfl⟩) ?_
        | refine Both.mk ?_ ?_
        | refine Exists.intro _ (And.intro rfl ?_)
        | refine rep_in ?_
        | refine opt_use (by assumption) ?_
        | refine vrow_use (by assumption) ?_
        | refine vrow_in (fun _ _ => ?_)
        | refine brow_use (by assumption) ?_
        | refine brow_in (fun _ _ => ?_)
        | refine fun _ => ?_))
      | exact rfl)
    refine ⟨i + 1, [], ⟨by omega, fun _ => (has_pos n0 n1).1 hge⟩, by omega, ?_⟩
    repeat' (first
      | ((conv => whnf); (first
        | refine brK_dec (fun _ => ?_) (fun _ => ?_)
        | refine brK_ndec (fun _ => ?_) (fun _ => ?_)
        | refine brK_not (fun _ => ?_) (fun _ => ?_)
        | refine brK_in (fun _ => ?_) (fun _ => ?_)
        | refine And.intro (by first | exact rfl | exact (by rw [e]) | exact ⟨_, rfl, rfl⟩ | exact ⟨rfl, rfl, rfl⟩ | exact of_decide_eq_true rfl | exact trivial | assumption | omega | (show (_ ≤ _ ∧ _ ≤ _); omega) | (simp; omega) | exact ⟨by first | omega | (simp; omega), _, rfl, rfl⟩) ?_
        | refine Both.mk ?_ ?_
        | refine Exists.intro _ (And.intro rfl ?_)
        | refine rep_in ?_
        | refine opt_use (by assumption) ?_
        | refine vrow_use (by assumption) ?_
        | refine vrow_in (fun _ _ => ?_)
        | refine brow_use (by assumption) ?_
        | refine brow_in (fun _ _ => ?_)
        | refine fun _ => ?_))
      | exact rfl)
  · rename_i h0 hge v hv e1 e2
    have hv : g[i]? = some v := hv
    have e := votS_no (c := c) (r := 2 * (n : Int)) (l := L.getD (n - 1) 0) hv (fun hh => e2 hh.2)
    refine ⟨i + 1, [], ⟨by omega, fun _ => (has_pos n0 n1).1 hge⟩, by omega, ?_⟩
    repeat' (first
      | ((conv => whnf); (first
        | refine brK_dec (fun _ => ?_) (fun _ => ?_)
        | refine brK_ndec (fun _ => ?_) (fun _ => ?_)
        | refine brK_not (fun _ => ?_) (fun _ => ?_)
        | refine brK_in (fun _ => ?_) (fun _ => ?_)
        | refine And.intro (by first | exact rfl | exact (by rw [e]) | exact ⟨_, rfl, rfl⟩ | exact ⟨rfl, rfl, rfl⟩ | exact of_decide_eq_true rfl | exact trivial | assumption | omega | (show (_ ≤ _ ∧ _ ≤ _); omega) | (simp; omega) | exact ⟨by first | omega | (simp; omega), _, rfl, rfl⟩) ?_
        | refine Both.mk ?_ ?_
        | refine Exists.intro _ (And.intro rfl ?_)
        | refine rep_in ?_
        | refine opt_use (by assumption) ?_
        | refine vrow_use (by assumption) ?_
        | refine vrow_in (fun _ _ => ?_)
        | refine brow_use (by assumption) ?_
        | refine brow_in (fun _ _ => ?_)
        | refine fun _ => ?_))
      | exact rfl)
  · rename_i h0 hge v hv e1
    have hv : g[i]? = some v := hv
    have e := votS_no (c := c) (r := 2 * (n : Int)) (l := L.getD (n - 1) 0) hv (fun hh => e1 hh.1)
    refine ⟨i + 1, [], ⟨by omega, fun _ => (has_pos n0 n1).1 hge⟩, by omega, ?_⟩
    repeat' (first
      | ((conv => whnf); (first
        | refine brK_dec (fun _ => ?_) (fun _ => ?_)
        | refine brK_ndec (fun _ => ?_) (fun _ => ?_)
        | refine brK_not (fun _ => ?_) (fun _ => ?_)
        | refine brK_in (fun _ => ?_) (fun _ => ?_)
        | refine And.intro (by first | exact rfl | exact (by rw [e]) | exact ⟨_, rfl, rfl⟩ | exact ⟨rfl, rfl, rfl⟩ | exact of_decide_eq_true rfl | exact trivial | assumption | omega | (show (_ ≤ _ ∧ _ ≤ _); omega) | (simp; omega) | exact ⟨by first | omega | (simp; omega), _, rfl, rfl⟩) ?_
        | refine Both.mk ?_ ?_
        | refine Exists.intro _ (And.intro rfl ?_)
        | refine rep_in ?_
        | refine opt_use (by assumption) ?_
        | refine vrow_use (by assumption) ?_
        | refine vrow_in (fun _ _ => ?_)
        | refine brow_use (by assumption) ?_
        | refine brow_in (fun _ _ => ?_)
        | refine fun _ => ?_))
      | exact rfl)
  · rename_i h0 hge
    have hf := (has_pos n0 n1).2 hge
    obtain rfl : i = 0 := by
      rcases Nat.eq_zero_or_pos i with h1 | h1
      · exact h1
      · rw [hh h1] at hf; cases hf
    rw [votI, hf, if_neg (by decide)] at h
    exact h
  · rename_i h0
    have hi2 : i = g.length := by omega
    subst hi2
    rw [List.take_length]
    unfold votI at h
    by_cases hz : hasV g L n = true
    · rw [if_pos hz] at h
      exact h
    · rw [if_neg hz] at h
      have : g = [] := by
        rcases Nat.eq_zero_or_pos g.length with h1 | h1
        · exact List.eq_nil_of_length_eq_zero h1
        · exact absurd (hh h1) hz
      rw [votS_none this]
      exact h
theorem past_get {g : List VxD} {s j : Nat} {x : Bool} (h : (pastV g s)[j]? = some x) : x = true ↔ Reach g s j := by
  unfold pastV at h
  rw [List.getElem?_map] at h
  obtain ⟨k, hk, rfl⟩ := Option.map_eq_some_iff.1 h
  have : k = j := by
    have := (List.getElem?_eq_some_iff.1 hk).1
    rw [List.getElem?_range (by simpa using this)] at hk
    exact (Option.some.inj hk).symm
  subst this
  simp
theorem past_len {g : List VxD} {s : Nat} : (pastV g s).length = g.length := by simp [pastV]
abbrev natI (l : List Nat) : List Int := List.map (fun n : Nat => (n : Int)) l
variable {has : Nat → Bool} {R : Nat → Nat → Bool} {dir : Nat → Bool} in
theorem dn_yes {cur x last : Nat} (h : last < x + 1) (hh : has (x + 1) = true) (hr : R cur (x + 1) = true) : dnW has R cur (x + 1) last = dnW has R (x + 1) x last ++ [x + 1] := by
  conv => lhs; unfold dnW
  rw [if_neg (by omega), if_pos (by rw [hh, hr]; rfl)]
variable {has : Nat → Bool} {R : Nat → Nat → Bool} {dir : Nat → Bool} in
theorem dn_no {cur x last : Nat} (h : last < x + 1) (hh : has (x + 1) = false ∨ R cur (x + 1) = false) : dnW has R cur (x + 1) last = dnW has R cur x last := by
  conv => lhs; unfold dnW
  rw [if_neg (by omega), if_neg (by rcases hh with e | e <;> rw [e] <;> simp)]
variable {has : Nat → Bool} {R : Nat → Nat → Bool} {dir : Nat → Bool} in
theorem dn_end {cur x last : Nat} (h : x ≤ last) : dnW has R cur x last = [] := by
  cases x with
  | zero => rfl
  | succ x => unfold dnW; rw [if_pos h]
variable {has : Nat → Bool} {R : Nat → Nat → Bool} {dir : Nat → Bool} in
theorem cm_yes {n : Nat} (h : dir (n + 1) = true) : cmW has R dir (n + 1) = ((cmW has R dir n).1 ++ chW has R (n + 1) (cmW has R dir n).2, n + 1) := by
  conv => lhs; unfold cmW
  rw [if_pos h]
variable {has : Nat → Bool} {R : Nat → Nat → Bool} {dir : Nat → Bool} in
theorem cm_skip {n : Nat} (h : dir (n + 1) = false) : cmW has R dir (n + 1) = cmW has R dir n := by
  conv => lhs; unfold cmW
  rw [if_neg (by rw [h]; simp)]
noncomputable def wavL (c : List Int) (g : List VxD) (L : List Int) (n : Nat) : List Nat × Nat := cmW (hasV g L) (linkV g L) (dirV c g L) n
theorem wav_len {c : List Int} {g : List VxD} {L : List Int} {n : Nat} : (wavL c g L n).1.length ≤ n ∧ (wavL c g L n).2 ≤ n := by
  have h1 := cm_asc (has := hasV g L) (R := linkV g L) (dir := dirV c g L) dir_has (n := n)
  have h2 : ∀ y ∈ (wavL c g L n).1, 0 < y ∧ y ≤ (wavL c g L n).2 ∧ hasV g L y = true := fun y hy => cm_mem dir_has hy
  have h3 := (cm_last (has := hasV g L) (R := linkV g L) (dir := dirV c g L) (n := n)).1
  refine ⟨?_, h3⟩
  have key : ∀ (l : List Nat) (m : Nat), l.Pairwise (· < ·) → (∀ y ∈ l, m < y ∧ y ≤ n) → l.length ≤ n - m := by
    intro l
    induction l with
    | nil => intro m _ _; simp
    | cons a l ih =>
      intro m hp hy
      have ha := hy a (by simp)
      have := ih a (List.pairwise_cons.1 hp).2 fun y hyl => ⟨(List.pairwise_cons.1 hp).1 y hyl, (hy y (by simp [hyl])).2⟩
      simp
      omega
  have := key _ 0 h1 fun y hy => by
    have := h2 y hy
    have h3 : (wavL c g L n).2 ≤ n := h3
    omega
  simpa [wavL] using this
def c_spec_l21Waves : Con := ⟨1, 0, false, fun xs hs _ K => match xs with
  | [.ints c, .sl 4 rows, .ints L] => hs = [] ∧ ∃ g : List VxD, rows = g.map VxD.row ∧ gV c g = true ∧ g.length < 2000000 ∧ (∀ v ∈ g, v.p.length < 2000000) ∧ L.length ≤ 15 ∧ K (.own 0) [.iarr (natI (outV c g L))] []
  | _ => False⟩
theorem k_spec_l21Waves : Keeps' Tryd.prog 27 c_spec_l21Waves := by
  refine keeps_of_vc mix TyT_ok (cok_cons k_spec_l21Votes Tryd.func44 rfl rfl (cok_cons k_spec_l1Support Tryd.func45 rfl rfl (cok_cons k_spec_l21Leader Tryd.func47 rfl rfl (cok_cons k_spec_l11Past Tryd.func46 rfl rfl cok_nil)))) Tryd.func27 rfl rfl rfl ?_
  intro aargs hs Fs K h
  simp only [c_spec_l21Waves] at h
  split at h
  case h_2 => exact h.elim
  rename_i c rows L
  obtain ⟨rfl, g, rfl, hv, hg, hp, hL, h⟩ := h
  have hlen : (g.map VxD.row).length = g.length := by simp
  have hc := gV_comV hv
  have hsp := sup_rng hc
  repeat' (first
    | ((conv => whnf); (first
      | refine brK_dec (fun _ => ?_) (fun _ => ?_)
      | refine brK_ndec (fun _ => ?_) (fun _ => ?_)
      | refine brK_not (fun _ => ?_) (fun _ => ?_)
      | refine brK_in (fun _ => ?_) (fun _ => ?_)
      | refine And.intro (by first | exact rfl | exact ⟨_, rfl, rfl⟩ | exact ⟨rfl, rfl, rfl⟩ | exact of_decide_eq_true rfl | exact trivial | assumption | omega | (show (_ ≤ _ ∧ _ ≤ _); omega) | (simp; omega) | exact ⟨by first | omega | (simp; omega), _, rfl, rfl⟩) ?_
      | refine Both.mk ?_ ?_
      | refine Exists.intro _ (And.intro rfl ?_)
      | refine rep_in ?_
      | refine opt_use (by assumption) ?_
      | refine vrow_use (by assumption) ?_
      | refine vrow_in (fun _ _ => ?_)
      | refine brow_use (by assumption) ?_
      | refine brow_in (fun _ _ => ?_)
      | refine fun _ => ?_))
    | exact rfl)
  refine loop_in (ι := Nat) (fun n => mkS 68 [(0, .ints c), (1, .sl 4 (g.map VxD.row)), (2, .ints L), (6, .val (.slice none 0 0)), (7, .own 0), (8, I (wavL c g L n).2), (9, I (n + 1))] [.iarr (natI (wavL c g L n).1)] Fs)
    (fun n => n ≤ L.length) (fun n => L.length - n) 0 [0] (Nat.zero_le _) ?_ ?_
  · repeat' (first
      | ((conv => whnf); (first
        | refine brK_dec (fun _ => ?_) (fun _ => ?_)
        | refine brK_ndec (fun _ => ?_) (fun _ => ?_)
        | refine brK_not (fun _ => ?_) (fun _ => ?_)
        | refine brK_in (fun _ => ?_) (fun _ => ?_)
        | refine And.intro (by first | exact rfl | exact (by simp [wavL, cmW]) | exact ⟨_, rfl, rfl⟩ | exact ⟨rfl, rfl, rfl⟩ | exact of_decide_eq_true rfl | exact trivial | assumption | omega | (show (_ ≤ _ ∧ _ ≤ _); omega) | (simp; omega) | exact ⟨by first | omega | (simp; omega), _, rfl, rfl⟩) ?_
        | refine Both.mk ?_ ?_
        | refine Exists.intro _ (And.intro rfl ?_)
        | refine rep_in ?_
        | refine opt_use (by assumption) ?_
        | refine vrow_use (by assumption) ?_
        | refine vrow_in (fun _ _ => ?_)
        | refine brow_use (by assumption) ?_
        | refine brow_in (fun _ _ => ?_)
        | refine fun _ => ?_))
      | exact rfl)
  intro n hn
  dsimp only at hn ⊢
  have hwl := wav_len (c := c) (g := g) (L := L) (n := n)
  have hwll : (natI (wavL c g L n).1).length ≤ n := by simp [hwl.1]
  repeat' (first
    | ((conv => whnf); (first
      | refine brK_dec (fun _ => ?_) (fun _ => ?_)
      | refine brK_ndec (fun _ => ?_) (fun _ => ?_)
      | refine brK_not (fun _ => ?_) (fun _ => ?_)
      | refine brK_in (fun _ => ?_) (fun _ => ?_)
      | refine And.intro (by first | exact rfl | exact ⟨_, rfl, rfl⟩ | exact ⟨rfl, rfl, rfl⟩ | exact of_decide_eq_true rfl | exact trivial | assumption | omega | (show (_ ≤ _ ∧ _ ≤ _); omega) | (simp; omega) | exact ⟨by first | omega | (simp; omega), _, rfl, rfl⟩) ?_
      | refine Both.mk ?_ ?_
      | refine Exists.intro _ (And.intro rfl ?_)
      | refine Exists.intro (n + 1) (And.intro (by simp) ?_)
      | refine rep_in ?_
      | refine opt_use (by assumption) ?_
      | refine vrow_use (by assumption) ?_
      | refine vrow_in (fun _ _ => ?_)
      | refine brow_use (by assumption) ?_
      | refine brow_in (fun _ _ => ?_)
      | refine fun _ => ?_))
    | exact rfl)
  · rename_i h0 hlt
    have hlt : votI c g L (n + 1) < sup c := hlt
    have hd : dirV c g L (n + 1) = false := by
      cases e : dirV c g L (n + 1) with
      | false => rfl
      | true => have := (dir_vot hv).1 e; omega
    have e : wavL c g L (n + 1) = wavL c g L n := cm_skip hd
    refine ⟨n + 1, [0], by omega, by omega, ?_⟩
    repeat' (first
      | ((conv => whnf); (first
        | refine brK_dec (fun _ => ?_) (fun _ => ?_)
        | refine brK_ndec (fun _ => ?_) (fun _ => ?_)
        | refine brK_not (fun _ => ?_) (fun _ => ?_)
        | refine brK_in (fun _ => ?_) (fun _ => ?_)
        | refine And.intro (by first | exact rfl | exact (by rw [e]) | exact ⟨_, rfl, rfl⟩ | exact ⟨rfl, rfl, rfl⟩ | exact of_decide_eq_true rfl | exact trivial | assumption | omega | (show (_ ≤ _ ∧ _ ≤ _); omega) | (simp; omega) | exact ⟨by first | omega | (simp; omega), _, rfl, rfl⟩) ?_
        | refine Both.mk ?_ ?_
        | refine Exists.intro _ (And.intro rfl ?_)
        | refine Exists.intro (n + 1) (And.intro (by simp) ?_)
        | refine rep_in ?_
        | refine opt_use (by assumption) ?_
        | refine vrow_use (by assumption) ?_
        | refine vrow_in (fun _ _ => ?_)
        | refine brow_use (by assumption) ?_
        | refine brow_in (fun _ _ => ?_)
        | refine fun _ => ?_))
      | exact rfl)
  · rename_i h0 hge
    have hge : ¬ votI c g L (n + 1) < sup c := hge
    have hd : dirV c g L (n + 1) = true := (dir_vot hv).2 (by omega)
    obtain ⟨i, hi⟩ := has_lead (dir_has _ hd)
    have hil : leadI g L (n + 1) = i ∧ i < g.length := by
      rcases lead_cases g L (n := n + 1) (by omega) (by omega) with ⟨j, e1, e2, e3⟩ | ⟨e1, e2⟩
      · rw [hi] at e1
        cases e1
        exact ⟨e2, e3⟩
      · rw [hi] at e1
        cases e1
    refine ⟨c, hv, hg, hp, some i, hil.1, fun s hs => by cases hs; exact hil.2, ?_⟩
    repeat' (first
      | ((conv => whnf); (first
        | refine brK_dec (fun _ => ?_) (fun _ => ?_)
        | refine brK_ndec (fun _ => ?_) (fun _ => ?_)
        | refine brK_not (fun _ => ?_) (fun _ => ?_)
        | refine brK_in (fun _ => ?_) (fun _ => ?_)
        | refine And.intro (by first | exact rfl | exact ⟨_, rfl, rfl⟩ | exact ⟨rfl, rfl, rfl⟩ | exact of_decide_eq_true rfl | exact trivial | assumption | omega | (show (_ ≤ _ ∧ _ ≤ _); omega) | (simp; omega) | exact ⟨by first | omega | (simp; omega), _, rfl, rfl⟩) ?_
        | refine Both.mk ?_ ?_
        | refine Exists.intro _ (And.intro rfl ?_)
        | refine rep_in ?_
        | refine opt_use (by assumption) ?_
        | refine vrow_use (by assumption) ?_
        | refine vrow_in (fun _ _ => ?_)
        | refine brow_use (by assumption) ?_
        | refine brow_in (fun _ _ => ?_)
        | refine fun _ => ?_))
      | exact rfl)
    refine loop_in (ι := Nat × List Nat × Nat × Nat) (fun q => mkS 68 [(0, .ints c), (1, .sl 4 (g.map VxD.row)), (2, .ints L), (6, .val (.slice none 0 0)), (7, .own 0), (8, I (wavL c g L n).2), (9, I (n + 1)), (10, .own 1), (11, .own 2), (12, I q.1)]
        [.iarr (natI (wavL c g L n).1), .iarr (natI q.2.1), .arr 1 (boolRows (pastV g q.2.2.2))] Fs)
      (fun q => q.1 ≤ n ∧ q.2.1.length + q.1 ≤ n + 1 ∧ leadV g L q.2.2.1 = some q.2.2.2 ∧ q.2.2.2 < g.length ∧ chW (hasV g L) (linkV g L) (n + 1) (wavL c g L n).2 = dnW (hasV g L) (linkV g L) q.2.2.1 q.1 (wavL c g L n).2 ++ q.2.1)
      (fun q => q.1) (n, [n + 1], n + 1, i) [0, 1, 2] ⟨by dsimp only; omega, by dsimp only [List.length]; omega, hi, hil.2, rfl⟩ ?_ ?_
    · repeat' (first
        | ((conv => whnf); (first
          | refine brK_dec (fun _ => ?_) (fun _ => ?_)
          | refine brK_ndec (fun _ => ?_) (fun _ => ?_)
          | refine brK_not (fun _ => ?_) (fun _ => ?_)
          | refine brK_in (fun _ => ?_) (fun _ => ?_)
          | refine And.intro (by first | exact rfl | exact (by simp) | exact ⟨_, rfl, rfl⟩ | exact ⟨rfl, rfl, rfl⟩ | exact of_decide_eq_true rfl | exact trivial | assumption | omega | (show (_ ≤ _ ∧ _ ≤ _); omega) | (simp; omega) | exact ⟨by first | omega | (simp; omega), _, rfl, rfl⟩) ?_
          | refine Both.mk ?_ ?_
          | refine Exists.intro _ (And.intro rfl ?_)
          | refine rep_in ?_
          | refine opt_use (by assumption) ?_
          | refine vrow_use (by assumption) ?_
          | refine vrow_in (fun _ _ => ?_)
          | refine brow_use (by assumption) ?_
          | refine brow_in (fun _ _ => ?_)
          | refine fun _ => ?_))
        | exact rfl)
    rintro ⟨x, ch, cur, ci⟩ ⟨hx, hchl, hcur, hci, hch⟩
    dsimp only at hx hchl hcur hci hch ⊢
    have hpl := past_len (g := g) (s := ci)
    have hcl : (natI ch).length = ch.length := by simp
    have hbl : (boolRows (pastV g ci)).length = g.length := by simp [hpl]
    repeat' (first
      | ((conv => whnf); (first
        | refine brK_dec (fun _ => ?_) (fun _ => ?_)
        | refine brK_ndec (fun _ => ?_) (fun _ => ?_)
        | refine brK_not (fun _ => ?_) (fun _ => ?_)
        | refine brK_in (fun _ => ?_) (fun _ => ?_)
        | refine And.intro (by first | exact rfl | exact ⟨_, rfl, rfl⟩ | exact ⟨rfl, rfl, rfl⟩ | exact of_decide_eq_true rfl | exact trivial | assumption | omega | (show (_ ≤ _ ∧ _ ≤ _); omega) | (simp; omega) | exact ⟨by first | omega | (simp; omega), _, rfl, rfl⟩) ?_
        | refine Both.mk ?_ ?_
        | refine Exists.intro _ (And.intro rfl ?_)
        | refine rep_in ?_
        | refine opt_use (by assumption) ?_
        | refine vrow_use (by assumption) ?_
        | refine vrow_in (fun _ _ => ?_)
        | refine brow_use (by assumption) ?_
        | refine brow_in (fun _ _ => ?_)
        | refine fun _ => ?_))
      | exact rfl)
    · rename_i h1 h2
      obtain ⟨y, rfl⟩ : ∃ y, x = y + 1 := ⟨x - 1, by omega⟩
      rcases lead_cases g L (n := y + 1) (by omega) (by omega) with ⟨k, e1, e2, e3⟩ | ⟨e1, e2⟩
      rotate_left
      · omega
      have hhas : hasV g L (y + 1) = true := by rw [hasV, e1]; rfl
      rw [e2]
      repeat' (first
        | ((conv => whnf); (first
          | refine brK_dec (fun _ => ?_) (fun _ => ?_)
          | refine brK_ndec (fun _ => ?_) (fun _ => ?_)
          | refine brK_not (fun _ => ?_) (fun _ => ?_)
          | refine brK_in (fun _ => ?_) (fun _ => ?_)
          | refine And.intro (by first | exact rfl | exact ⟨_, rfl, rfl⟩ | exact ⟨rfl, rfl, rfl⟩ | exact of_decide_eq_true rfl | exact trivial | assumption | omega | (show (_ ≤ _ ∧ _ ≤ _); omega) | (simp; omega) | exact ⟨by first | omega | (simp; omega), _, rfl, rfl⟩) ?_
          | refine Both.mk ?_ ?_
          | refine Exists.intro _ (And.intro rfl ?_)
          | refine rep_in ?_
          | refine opt_use (by assumption) ?_
          | refine vrow_use (by assumption) ?_
          | refine vrow_in (fun _ _ => ?_)
          | refine brow_use (by assumption) ?_
          | refine brow_in (fun _ _ => ?_)
          | refine fun _ => ?_))
        | exact rfl)
      · rename_i z hz hzt
        have hz : (pastV g ci)[k]? = some z := hz
        have hr : linkV g L cur (y + 1) = true := link_in hcur e1 ((past_get hz).1 hzt)
        repeat' (first
          | ((conv => whnf); (first
            | refine brK_dec (fun _ => ?_) (fun _ => ?_)
            | refine brK_ndec (fun _ => ?_) (fun _ => ?_)
            | refine brK_not (fun _ => ?_) (fun _ => ?_)
            | refine brK_in (fun _ => ?_) (fun _ => ?_)
            | refine And.intro (by first | exact rfl | exact (fun s hs => (by cases hs; exact e3)) | exact ⟨_, rfl, rfl⟩ | exact ⟨rfl, rfl, rfl⟩ | exact of_decide_eq_true rfl | exact trivial | assumption | omega | (show (_ ≤ _ ∧ _ ≤ _); omega) | (simp; omega) | exact ⟨by first | omega | (simp; omega), _, rfl, rfl⟩) ?_
            | refine Both.mk ?_ ?_
            | refine Exists.intro _ (And.intro rfl ?_)
            | refine Exists.intro c (And.intro hv ?_)
            | refine Exists.intro (some k) (And.intro rfl ?_)
            | refine fun _ => ?_))
          | exact rfl)
        refine ⟨(y, (y + 1) :: ch, y + 1, k), [0, 3, 4], ⟨by dsimp only; omega, by dsimp only [List.length]; omega, e1, e3, ?_⟩, by dsimp only; omega, ?_⟩
        · rw [hch, dn_yes (by omega) hhas hr, List.append_assoc]
          rfl
        repeat' (first
          | ((conv => whnf); (first
            | refine brK_dec (fun _ => ?_) (fun _ => ?_)
            | refine brK_ndec (fun _ => ?_) (fun _ => ?_)
            | refine brK_not (fun _ => ?_) (fun _ => ?_)
            | refine brK_in (fun _ => ?_) (fun _ => ?_)
            | refine And.intro (by first | exact rfl | exact (by simp) | exact ⟨_, rfl, rfl⟩ | exact ⟨rfl, rfl, rfl⟩ | exact of_decide_eq_true rfl | exact trivial | assumption | omega | (show (_ ≤ _ ∧ _ ≤ _); omega) | (simp; omega) | exact ⟨by first | omega | (simp; omega), _, rfl, rfl⟩) ?_
            | refine Both.mk ?_ ?_
            | refine Exists.intro _ (And.intro rfl ?_)
            | refine fun _ => ?_))
          | exact rfl)
      · rename_i z hz hzt
        have hz : (pastV g ci)[k]? = some z := hz
        have hr : linkV g L cur (y + 1) = false := by
          cases e : linkV g L cur (y + 1) with
          | false => rfl
          | true =>
            obtain ⟨a, b, f1, f2, f3⟩ := link_out e
            rw [hcur] at f1
            rw [e1] at f2
            cases f1
            cases f2
            rw [(past_get hz).2 f3] at hzt
            cases hzt
        refine ⟨(y, ch, cur, ci), [0, 1, 2], ⟨by dsimp only; omega, by dsimp only; omega, hcur, hci, by rw [hch, dn_no (by omega) (.inr hr)]⟩, by dsimp only; omega, ?_⟩
        repeat' (first
          | ((conv => whnf); (first
            | refine brK_dec (fun _ => ?_) (fun _ => ?_)
            | refine brK_ndec (fun _ => ?_) (fun _ => ?_)
            | refine brK_not (fun _ => ?_) (fun _ => ?_)
            | refine brK_in (fun _ => ?_) (fun _ => ?_)
            | refine And.intro (by first | exact rfl | exact ⟨_, rfl, rfl⟩ | exact ⟨rfl, rfl, rfl⟩ | exact of_decide_eq_true rfl | exact trivial | assumption | omega | (show (_ ≤ _ ∧ _ ≤ _); omega) | (simp; omega) | exact ⟨by first | omega | (simp; omega), _, rfl, rfl⟩) ?_
            | refine Both.mk ?_ ?_
            | refine Exists.intro _ (And.intro rfl ?_)
            | refine fun _ => ?_))
          | exact rfl)
    · rename_i h1 h2
      obtain ⟨y, rfl⟩ : ∃ y, x = y + 1 := ⟨x - 1, by omega⟩
      have hh := (has_pos (g := g) (L := L) (n := y + 1) (by omega) (by omega)).2 h2
      refine ⟨(y, ch, cur, ci), [0, 1, 2], ⟨by dsimp only; omega, by dsimp only; omega, hcur, hci, by rw [hch, dn_no (by omega) (.inl hh)]⟩, by dsimp only; omega, ?_⟩
      repeat' (first
        | ((conv => whnf); (first
          | refine brK_dec (fun _ => ?_) (fun _ => ?_)
          | refine brK_ndec (fun _ => ?_) (fun _ => ?_)
          | refine brK_not (fun _ => ?_) (fun _ => ?_)
          | refine brK_in (fun _ => ?_) (fun _ => ?_)
          | refine And.intro (by first | exact rfl | exact ⟨_, rfl, rfl⟩ | exact ⟨rfl, rfl, rfl⟩ | exact of_decide_eq_true rfl | exact trivial | assumption | omega | (show (_ ≤ _ ∧ _ ≤ _); omega) | (simp; omega) | exact ⟨by first | omega | (simp; omega), _, rfl, rfl⟩) ?_
          | refine Both.mk ?_ ?_
          | refine Exists.intro _ (And.intro rfl ?_)
          | refine fun _ => ?_))
        | exact rfl)
    · rename_i h1
      have e : wavL c g L (n + 1) = ((wavL c g L n).1 ++ ch, n + 1) := by
        show cmW _ _ _ _ = _
        rw [cm_yes hd]
        show ((wavL c g L n).1 ++ chW (hasV g L) (linkV g L) (n + 1) (wavL c g L n).2, n + 1) = _
        rw [hch, dn_end (by omega)]
        rfl
      repeat' (first
        | ((conv => whnf); (first
          | refine brK_dec (fun _ => ?_) (fun _ => ?_)
          | refine brK_ndec (fun _ => ?_) (fun _ => ?_)
          | refine brK_not (fun _ => ?_) (fun _ => ?_)
          | refine brK_in (fun _ => ?_) (fun _ => ?_)
          | refine And.intro (by first | exact rfl | exact ⟨_, rfl, rfl⟩ | exact ⟨rfl, rfl, rfl⟩ | exact of_decide_eq_true rfl | exact trivial | assumption | omega | (show (_ ≤ _ ∧ _ ≤ _); omega) | (simp; omega) | exact ⟨by first | omega | (simp; omega), _, rfl, rfl⟩) ?_
          | refine Both.mk ?_ ?_
          | refine Exists.intro _ (And.intro rfl ?_)
          | refine fun _ => ?_))
        | exact rfl)
      refine ⟨n + 1, [0], by omega, by omega, ?_⟩
      repeat' (first
        | ((conv => whnf); (first
          | refine brK_dec (fun _ => ?_) (fun _ => ?_)
          | refine brK_ndec (fun _ => ?_) (fun _ => ?_)
          | refine brK_not (fun _ => ?_) (fun _ => ?_)
          | refine brK_in (fun _ => ?_) (fun _ => ?_)
          | refine And.intro (by first | exact rfl | exact (by first | (rw [e]; simp; done) | (rw [e]; simp; exact (List.take_of_length_le (by simp)).symm)) | exact ⟨_, rfl, rfl⟩ | exact ⟨rfl, rfl, rfl⟩ | exact of_decide_eq_true rfl | exact trivial | assumption | omega | (show (_ ≤ _ ∧ _ ≤ _); omega) | (simp; omega) | exact ⟨by first | omega | (simp; omega), _, rfl, rfl⟩) ?_
          | refine Both.mk ?_ ?_
          | refine Exists.intro _ (And.intro rfl ?_)
          | refine fun _ => ?_))
        | exact rfl)
  · rename_i h0
    obtain rfl : n = L.length := by omega
    exact h
noncomputable def wavI (c : List Int) (g : List VxD) (L : List Int) : List Int := if (gV c g && leadersV c L) = true then natI (outV c g L) else []
def c_spec_CommitWaves : Con := ⟨1, 0, false, fun xs hs _ K => match xs with
  | [.ints c, .sl 4 rows, .ints L] => hs = [] ∧ ∃ g : List VxD, rows = g.map VxD.row ∧ c.length < 2000000 ∧ g.length < 2000000 ∧ (∀ v ∈ g, v.p.length < 2000000) ∧ L.length < 2000000 ∧ K (.own 0) [.iarr (wavI c g L)] []
  | _ => False⟩
theorem leaders_len {c L : List Int} (h : leadersV c L = true) : L.length ≤ 15 := by
  unfold leadersV at h
  rw [Bool.and_eq_true] at h
  exact of_decide_eq_true h.2
theorem and1 {a b : Bool} (h : (a && b) = true) : a = true := by rw [Bool.and_eq_true] at h; exact h.1
theorem and2 {a b : Bool} (h : (a && b) = true) : b = true := by rw [Bool.and_eq_true] at h; exact h.2
theorem k_spec_CommitWaves : Keeps' Tryd.prog 12 c_spec_CommitWaves := by
  refine keeps_of_vc mix TyT_ok (cok_cons k_spec_l21Ok Tryd.func26 rfl rfl (cok_cons k_spec_l21Waves Tryd.func27 rfl rfl cok_nil)) Tryd.func12 rfl rfl rfl ?_
  intro aargs hs Fs K h
  simp only [c_spec_CommitWaves] at h
  split at h
  case h_2 => exact h.elim
  rename_i c rows L
  obtain ⟨rfl, g, rfl, hc, hg, hp, hL, h⟩ := h
  repeat' (first
    | ((conv => whnf); (first
      | refine brK_dec (fun _ => ?_) (fun _ => ?_)
      | refine brK_ndec (fun _ => ?_) (fun _ => ?_)
      | refine brK_not (fun _ => ?_) (fun _ => ?_)
      | refine brK_in (fun _ => ?_) (fun _ => ?_)
      | refine And.intro (by first | exact rfl | exact (by first | exact and1 (by assumption) | exact leaders_len (and2 (by assumption))) | exact ⟨_, rfl, rfl⟩ | exact ⟨rfl, rfl, rfl⟩ | exact of_decide_eq_true rfl | exact trivial | assumption | omega | (show (_ ≤ _ ∧ _ ≤ _); omega) | (simp; omega) | exact ⟨by first | omega | (simp; omega), _, rfl, rfl⟩) ?_
      | refine Both.mk ?_ ?_
      | refine Exists.intro _ (And.intro rfl ?_)
      | refine fun _ => ?_))
    | exact rfl)
  all_goals (rename_i e; rw [wavI, e] at h; exact h)
end Go.Proofs.YtenflffikgfphaaDoor
