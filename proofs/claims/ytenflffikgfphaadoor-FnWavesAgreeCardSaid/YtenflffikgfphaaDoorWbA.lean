/-
The laws on waves, those without views.
No conditions.
-/
import Derived.Test.YtenflffikgfphaaDoorWaC
namespace Go.Proofs.YtenflffikgfphaaDoor
open Go Go.Vc
set_option maxHeartbeats 4000000
set_option maxRecDepth 10000
theorem eq_takeJ {a b : List (Int × Int)} {i : Nat} {x y : Int × Int} (h : a.take i = b.take i) (hx : a[i]? = some x) (hy : b[i]? = some y) (e : x = y) : a.take (i + 1) = b.take (i + 1) := by
  rw [List.take_add_one, List.take_add_one, h, hx, hy, e]
theorem eq_takeW {a b : List Int} {i : Nat} {x y : Int} (h : a.take i = b.take i) (hx : a[i]? = some x) (hy : b[i]? = some y) (e : x = y) : a.take (i + 1) = b.take (i + 1) := by
  rw [List.take_add_one, List.take_add_one, h, hx, hy, e]
def c_laws_eqIntS : Con := ⟨0, 0, false, fun xs hs _ K => match xs with
  | [.ints a, .ints b] => hs = [] ∧ a.length < 2000000 ∧ b.length < 2000000 ∧ K (B (decide (a = b))) [] []
  | _ => False⟩
theorem k_laws_sameInts : Keeps' Tryd.prog 13 c_laws_eqIntS := by
  refine keeps_of_vc mix TyT_ok cok_nil Tryd.func13 rfl rfl rfl ?_
  intro aargs hs Fs K h
  simp only [c_laws_eqIntS] at h
  split at h
  case h_2 => exact h.elim
  rename_i a b
  obtain ⟨rfl, ha, hb, h⟩ := h
  have no : ∀ {c : Bool}, decide (a = b) = c → K (B c) [] [] := fun e => by rw [← e]; exact h
  repeat' (first
    | ((conv => whnf); (first
      | refine brK_dec (fun _ => ?_) (fun _ => ?_)
      | refine brK_ndec (fun _ => ?_) (fun _ => ?_)
      | refine brK_not (fun _ => ?_) (fun _ => ?_)
      | refine brK_in (fun _ => ?_) (fun _ => ?_)
      | refine And.intro (by first | exact rfl | exact ⟨_, rfl, rfl⟩ | exact ⟨rfl, rfl, rfl⟩ | exact of_decide_eq_true rfl | exact trivial | assumption | omega | (show (_ ≤ _ ∧ _ ≤ _); omega) | (simp; omega) | exact ⟨by first | omega | (simp; omega), _, rfl, rfl⟩) ?_
      | refine Both.mk ?_ ?_
      | refine Exists.intro _ (And.intro rfl ?_)
      | refine fun _ => ?_))
    | exact rfl)
  · rename_i h1
    exact no (by
      have : a ≠ b := by rintro rfl; exact h1 rfl
      simp [this])
  rename_i h1
  have hlen : a.length = b.length := by omega
  refine loop_in (ι := Nat) (fun i => mkS 26 [(0, .ints a), (1, .ints b), (4, B false), (5, I i)] [] Fs) (fun i => i ≤ a.length ∧ a.take i = b.take i) (fun i => a.length - i) 0 [] ⟨Nat.zero_le _, by simp⟩ ?_ ?_
  · repeat' (first
      | ((conv => whnf); (first
        | refine brK_dec (fun _ => ?_) (fun _ => ?_)
        | refine brK_ndec (fun _ => ?_) (fun _ => ?_)
        | refine brK_not (fun _ => ?_) (fun _ => ?_)
        | refine brK_in (fun _ => ?_) (fun _ => ?_)
        | refine And.intro (by first | exact rfl | exact ⟨_, rfl, rfl⟩ | exact ⟨rfl, rfl, rfl⟩ | exact of_decide_eq_true rfl | exact trivial | assumption | omega | (show (_ ≤ _ ∧ _ ≤ _); omega) | (simp; omega) | exact ⟨by first | omega | (simp; omega), _, rfl, rfl⟩) ?_
        | refine Both.mk ?_ ?_
        | refine Exists.intro _ (And.intro rfl ?_)
        | refine fun _ => ?_))
      | exact rfl)
  intro i ⟨hi, hall⟩
  repeat' (first
    | ((conv => whnf); (first
      | refine draw_plan (id := 6) [] [] (.take 0 (.take 1 (.take 2 (.take 3 (.take 4 (.take 5 (.take 6 (.take 7 (.take 8 .done))))))))) (by kernel_rfl) (by kernel_rfl) ?_
      | refine brK_dec (fun _ => ?_) (fun _ => ?_)
      | refine brK_ndec (fun _ => ?_) (fun _ => ?_)
      | refine brK_not (fun _ => ?_) (fun _ => ?_)
      | refine brK_in (fun _ => ?_) (fun _ => ?_)
      | refine And.intro (by first | exact rfl | exact ⟨_, rfl, rfl⟩ | exact ⟨rfl, rfl, rfl⟩ | exact of_decide_eq_true rfl | exact trivial | assumption | omega | (show (_ ≤ _ ∧ _ ≤ _); omega) | (simp; omega) | exact ⟨by first | omega | (simp; omega), _, rfl, rfl⟩) ?_
      | refine Both.mk ?_ ?_
      | refine Exists.intro _ (And.intro rfl ?_)
      | refine fun _ => ?_))
    | exact rfl)
  · rename_i hil x hx y hy e
    refine no ?_
    have : a ≠ b := by
      rintro rfl
      have hx' : a[i]? = some x := hx
      have hy' : a[i]? = some y := hy
      rw [hx'] at hy'
      exact e (Option.some.inj hy')
    simp [this]
  · rename_i hil x hx y hy e
    refine ⟨i + 1, [], ⟨by omega, eq_takeW hall hx hy (by simpa using e)⟩, by omega, ?_⟩
    repeat' (first
      | ((conv => whnf); (first
        | refine brK_dec (fun _ => ?_) (fun _ => ?_)
        | refine brK_ndec (fun _ => ?_) (fun _ => ?_)
        | refine brK_not (fun _ => ?_) (fun _ => ?_)
        | refine brK_in (fun _ => ?_) (fun _ => ?_)
        | refine And.intro (by first | exact rfl | exact ⟨_, rfl, rfl⟩ | exact ⟨rfl, rfl, rfl⟩ | exact of_decide_eq_true rfl | exact trivial | assumption | omega | (show (_ ≤ _ ∧ _ ≤ _); omega) | (simp; omega) | exact ⟨by first | omega | (simp; omega), _, rfl, rfl⟩) ?_
        | refine Both.mk ?_ ?_
        | refine Exists.intro _ (And.intro rfl ?_)
        | refine fun _ => ?_))
      | exact rfl)
  · rename_i hil
    rw [List.take_of_length_le (by omega), List.take_of_length_le (by omega)] at hall
    exact no (by simp [hall])
def c_laws_hasInt : Con := ⟨0, 0, false, fun xs hs _ K => match xs with
  | [.ints l, .val (.int .i64 x)] => hs = [] ∧ l.length < 2000000 ∧ K (B (decide (x ∈ l))) [] []
  | _ => False⟩
theorem k_laws_hasInt : Keeps' Tryd.prog 18 c_laws_hasInt := by
  refine keeps_of_vc mix TyT_ok cok_nil Tryd.func18 rfl rfl rfl ?_
  intro aargs hs Fs K h
  simp only [c_laws_hasInt] at h
  split at h
  case h_2 => exact h.elim
  rename_i l x
  obtain ⟨rfl, hl, h⟩ := h
  have no : ∀ {b : Bool}, decide (x ∈ l) = b → K (B b) [] [] := fun e => by rw [← e]; exact h
  repeat' (first
    | ((conv => whnf); (first
      | refine brK_dec (fun _ => ?_) (fun _ => ?_)
      | refine brK_ndec (fun _ => ?_) (fun _ => ?_)
      | refine brK_not (fun _ => ?_) (fun _ => ?_)
      | refine brK_in (fun _ => ?_) (fun _ => ?_)
      | refine And.intro (by first | exact rfl | exact ⟨_, rfl, rfl⟩ | exact ⟨rfl, rfl, rfl⟩ | exact of_decide_eq_true rfl | exact trivial | assumption | omega | (show (_ ≤ _ ∧ _ ≤ _); omega) | (simp; omega) | exact ⟨by first | omega | (simp; omega), _, rfl, rfl⟩) ?_
      | refine Both.mk ?_ ?_
      | refine Exists.intro _ (And.intro rfl ?_)
      | refine fun _ => ?_))
    | exact rfl)
  refine loop_in (ι := Nat) (fun i => mkS 18 [(0, .ints l), (1, I x), (4, B false), (5, I i)] [] Fs) (fun i => i ≤ l.length ∧ ∀ y ∈ l.take i, y ≠ x) (fun i => l.length - i) 0 [] ⟨Nat.zero_le _, by simp⟩ ?_ ?_
  · repeat' (first
      | ((conv => whnf); (first
        | refine brK_dec (fun _ => ?_) (fun _ => ?_)
        | refine brK_ndec (fun _ => ?_) (fun _ => ?_)
        | refine brK_not (fun _ => ?_) (fun _ => ?_)
        | refine brK_in (fun _ => ?_) (fun _ => ?_)
        | refine And.intro (by first | exact rfl | exact ⟨_, rfl, rfl⟩ | exact ⟨rfl, rfl, rfl⟩ | exact of_decide_eq_true rfl | exact trivial | assumption | omega | (show (_ ≤ _ ∧ _ ≤ _); omega) | (simp; omega) | exact ⟨by first | omega | (simp; omega), _, rfl, rfl⟩) ?_
        | refine Both.mk ?_ ?_
        | refine Exists.intro _ (And.intro rfl ?_)
        | refine fun _ => ?_))
      | exact rfl)
  intro i ⟨hi, hall⟩
  repeat' (first
    | ((conv => whnf); (first
      | refine brK_dec (fun _ => ?_) (fun _ => ?_)
      | refine brK_ndec (fun _ => ?_) (fun _ => ?_)
      | refine brK_not (fun _ => ?_) (fun _ => ?_)
      | refine brK_in (fun _ => ?_) (fun _ => ?_)
      | refine And.intro (by first | exact rfl | exact ⟨_, rfl, rfl⟩ | exact ⟨rfl, rfl, rfl⟩ | exact of_decide_eq_true rfl | exact trivial | assumption | omega | (show (_ ≤ _ ∧ _ ≤ _); omega) | (simp; omega) | exact ⟨by first | omega | (simp; omega), _, rfl, rfl⟩) ?_
      | refine Both.mk ?_ ?_
      | refine Exists.intro _ (And.intro rfl ?_)
      | refine fun _ => ?_))
    | exact rfl)
  · rename_i hil y hy e
    exact no (decide_eq_true (by rw [← e]; exact List.mem_of_getElem? hy))
  · rename_i hil y hy e
    refine ⟨i + 1, [], ⟨by omega, take_all hall hy e⟩, by omega, ?_⟩
    repeat' (first
      | ((conv => whnf); (first
        | refine brK_dec (fun _ => ?_) (fun _ => ?_)
        | refine brK_ndec (fun _ => ?_) (fun _ => ?_)
        | refine brK_not (fun _ => ?_) (fun _ => ?_)
        | refine brK_in (fun _ => ?_) (fun _ => ?_)
        | refine And.intro (by first | exact rfl | exact ⟨_, rfl, rfl⟩ | exact ⟨rfl, rfl, rfl⟩ | exact of_decide_eq_true rfl | exact trivial | assumption | omega | (show (_ ≤ _ ∧ _ ≤ _); omega) | (simp; omega) | exact ⟨by first | omega | (simp; omega), _, rfl, rfl⟩) ?_
        | refine Both.mk ?_ ?_
        | refine Exists.intro _ (And.intro rfl ?_)
        | refine fun _ => ?_))
      | exact rfl)
  · rename_i hil
    rw [List.take_of_length_le (by omega)] at hall
    exact no (decide_eq_false fun hx => hall x hx rfl)
def prefB (a b : List Int) : Bool := decide (a.length ≤ b.length) && decide (a = b.take a.length)
theorem prefB_of {a b : List Int} (h : a <+: b) : prefB a b = true := by
  obtain ⟨t, rfl⟩ := h
  simp [prefB]
def c_laws_prefixInts : Con := ⟨0, 0, false, fun xs hs _ K => match xs with
  | [.ints a, .ints b] => hs = [] ∧ a.length < 2000000 ∧ b.length < 2000000 ∧ K (B (prefB a b)) [] []
  | _ => False⟩
theorem k_laws_prefixInts : Keeps' Tryd.prog 16 c_laws_prefixInts := by
  refine keeps_of_vc mix TyT_ok (cok_cons k_laws_sameInts Tryd.func13 rfl rfl cok_nil) Tryd.func16 rfl rfl rfl ?_
  intro aargs hs Fs K h
  simp only [c_laws_prefixInts] at h
  split at h
  case h_2 => exact h.elim
  rename_i a b
  obtain ⟨rfl, ha, hb, h⟩ := h
  have no : ∀ {c : Bool}, prefB a b = c → K (B c) [] [] := fun e => by rw [← e]; exact h
  repeat' (first
    | ((conv => whnf); (first
      | refine brK_dec (fun _ => ?_) (fun _ => ?_)
      | refine brK_ndec (fun _ => ?_) (fun _ => ?_)
      | refine brK_not (fun _ => ?_) (fun _ => ?_)
      | refine brK_in (fun _ => ?_) (fun _ => ?_)
      | refine And.intro (by first | exact rfl | exact ⟨_, rfl, rfl⟩ | exact ⟨rfl, rfl, rfl⟩ | exact of_decide_eq_true rfl | exact trivial | assumption | omega | (show (_ ≤ _ ∧ _ ≤ _); omega) | (simp; omega) | exact ⟨by first | omega | (simp; omega), _, rfl, rfl⟩) ?_
      | refine Both.mk ?_ ?_
      | refine Exists.intro _ (And.intro rfl ?_)
      | refine opt_use (by assumption) ?_
      | refine fun _ => ?_))
    | exact rfl)
  · refine no ?_
    rw [prefB, decide_eq_true (by omega)]
    simp
  · refine no ?_
    rw [prefB, decide_eq_false (by omega)]
    rfl
theorem gfit_small {g : List VxD} (h : gfit g) : ∀ v ∈ g, v.p.length < 2000000 := fun v hv => Nat.lt_of_le_of_lt (h v hv) (by decide)
theorem wavI_ok {c : List Int} {g : List VxD} {L : List Int} (h : (gV c g && leadersV c L) = true) : wavI c g L = natI (outV c g L) := if_pos h
theorem wavI_len {c : List Int} {g : List VxD} {L : List Int} : (wavI c g L).length ≤ L.length := by
  unfold wavI
  split
  · have := (wav_len (c := c) (g := g) (L := L) (n := L.length)).1
    simpa [wavL, outV] using this
  · simp
theorem leaders_take {c L : List Int} {k : Nat} (h : leadersV c L = true) : leadersV c (L.take k) = true := by
  unfold leadersV at h ⊢
  rw [Bool.and_eq_true] at h ⊢
  refine ⟨?_, decide_eq_true ?_⟩
  · rw [List.all_eq_true]
    exact fun x hx => List.all_eq_true.1 h.1 x (List.mem_of_mem_take hx)
  · have := of_decide_eq_true h.2
    simp
    omega
theorem wavI_pre {c : List Int} {g : List VxD} {L : List Int} {k : Nat} (hk : k ≤ L.length) (h : (gV c g && leadersV c L) = true) : prefB (wavI c g (L.take k)) (wavI c g L) = true := by
  rw [wavI_ok h, wavI_ok (by rw [and1 h, leaders_take (and2 h)]; rfl)]
  exact prefB_of ((out_leaders hk).map _)
def c_laws_FnWavesLeaders : Con := ⟨0, 0, false, fun xs hs Fs K => match xs with
  | [.bytes b, .bytes b2] => hs = [] ∧ ∃ p0 p1 p2, hasErr Fs p0 p1 p2 ∧ b.length ≤ 9223372036854775807 ∧ b2.length ≤ 9223372036854775807 ∧ K (B true) [] []
  | _ => False⟩
theorem k_laws_FnWavesLeaders : Keeps' Tryd.prog 3 c_laws_FnWavesLeaders := by
  refine keeps_of_vc mix TyT_ok (cok_cons k_spec_DrawCommitWaves Tryd.func10 rfl rfl (cok_cons k_impl_CommitWaves Tryd.func11 rfl rfl (cok_cons k_spec_CommitWaves Tryd.func12 rfl rfl (cok_cons k_laws_sameInts Tryd.func13 rfl rfl (cok_cons k_spec_GraphValid Tryd.func14 rfl rfl (cok_cons k_spec_LeadersValid Tryd.func15 rfl rfl (cok_cons k_laws_prefixInts Tryd.func16 rfl rfl cok_nil))))))) Tryd.func3 rfl rfl rfl ?_
  intro aargs hs Fs K h
  simp only [c_laws_FnWavesLeaders] at h
  split at h
  case h_2 => exact h.elim
  rename_i b b2
  obtain ⟨rfl, p0, p1, p2, hE, hb, hb2, h⟩ := h
  repeat' (first
    | ((conv => whnf); (first
      | refine Exists.intro p0 (Exists.intro p1 (Exists.intro p2 (And.intro (err_app hE) ?_)))
      | refine brK_dec (fun _ => ?_) (fun _ => ?_)
      | refine brK_ndec (fun _ => ?_) (fun _ => ?_)
      | refine brK_not (fun _ => ?_) (fun _ => ?_)
      | refine brK_in (fun _ => ?_) (fun _ => ?_)
      | refine And.intro (by first | exact rfl | exact ⟨_, rfl, rfl⟩ | exact ⟨rfl, rfl, rfl⟩ | exact of_decide_eq_true rfl | exact trivial | assumption | omega | (show (_ ≤ _ ∧ _ ≤ _); omega) | (simp; omega) | exact ⟨by first | omega | (simp; omega), _, rfl, rfl⟩) ?_
      | refine Both.mk ?_ ?_
      | refine Exists.intro _ (And.intro rfl ?_)
      | refine opt_use (by assumption) ?_
      | refine fun _ => ?_))
    | exact rfl)
  · exact h
  · exact h
  rename_i h1 h2 c g L p3 p4 p5 p6
  have hgs := gfit_small p5
  have hwl := wavI_len (c := c) (g := g) (L := L)
  repeat' (first
    | ((conv => whnf); (first
      | refine Exists.intro p0 (Exists.intro p1 (Exists.intro p2 (And.intro (err_app hE) ?_)))
      | refine brK_dec (fun _ => ?_) (fun _ => ?_)
      | refine brK_ndec (fun _ => ?_) (fun _ => ?_)
      | refine brK_not (fun _ => ?_) (fun _ => ?_)
      | refine brK_in (fun _ => ?_) (fun _ => ?_)
      | refine And.intro (by first | exact rfl | exact ⟨_, rfl, rfl⟩ | exact ⟨rfl, rfl, rfl⟩ | exact of_decide_eq_true rfl | exact trivial | assumption | omega | (show (_ ≤ _ ∧ _ ≤ _); omega) | (simp; omega) | exact ⟨by first | omega | (simp; omega), _, rfl, rfl⟩) ?_
      | refine Both.mk ?_ ?_
      | refine Exists.intro _ (And.intro rfl ?_)
      | refine opt_use (by assumption) ?_
      | refine fun _ => ?_))
    | exact rfl)
  · simpa using h
  · simpa using h
  · simpa using h
  rename_i e1 e2 e3
  have hok : (gV c g && leadersV c L) = true := by rw [e2, and2 e3]; rfl
  have hk : 0 ≤ (b2.length : Int) % (L.length + 1) ∧ (b2.length : Int) % (L.length + 1) ≤ L.length := by
    have h1 := Int.emod_nonneg (b2.length : Int) (b := (L.length : Int) + 1) (by omega)
    have h2 := Int.emod_lt_of_pos (b2.length : Int) (b := (L.length : Int) + 1) (by omega)
    omega
  generalize (b2.length : Int) % (L.length + 1) = k at hk ⊢
  have hwl2 := wavI_len (c := c) (g := g) (L := L.take k.toNat)
  have hwt : (L.take k.toNat).length ≤ L.length := by simp; omega
  refine ⟨hk.2, ?_⟩
  repeat' (first
    | ((conv => whnf); (first
      | refine Exists.intro p0 (Exists.intro p1 (Exists.intro p2 (And.intro (err_app hE) ?_)))
      | refine brK_dec (fun _ => ?_) (fun _ => ?_)
      | refine brK_ndec (fun _ => ?_) (fun _ => ?_)
      | refine brK_not (fun _ => ?_) (fun _ => ?_)
      | refine brK_in (fun _ => ?_) (fun _ => ?_)
      | refine And.intro (by first | exact rfl | exact ⟨_, rfl, rfl⟩ | exact ⟨rfl, rfl, rfl⟩ | exact of_decide_eq_true rfl | exact trivial | assumption | omega | (show (_ ≤ _ ∧ _ ≤ _); omega) | (simp; omega) | exact ⟨by first | omega | (simp; omega), _, rfl, rfl⟩) ?_
      | refine Both.mk ?_ ?_
      | refine Exists.intro _ (And.intro rfl ?_)
      | refine opt_use (by assumption) ?_
      | refine fun _ => ?_))
    | exact rfl)
  have hp := wavI_pre (c := c) (g := g) (k := k.toNat) (by omega) hok
  have e4 : (List.take (k.toNat - 0) (List.drop 0 L)) = L.take k.toNat := by simp
  show K (B (prefB (wavI c g _) (wavI c g L))) [] []
  rw [e4, hp]
  exact h
theorem dir_mem {c : List Int} {g : List VxD} {L : List Int} {n : Nat} (h0 : 1 ≤ n) (h1 : n ≤ L.length) (h : (gV c g && leadersV c L && dirV c g L n) = true) : (n : Int) ∈ wavI c g L := by
  rw [wavI_ok (and1 h)]
  exact List.mem_map.2 ⟨n, out_dir h0 h1 (and2 h), rfl⟩
def c_laws_FnWavesDirect : Con := ⟨0, 0, false, fun xs hs Fs K => match xs with
  | [.bytes b] => hs = [] ∧ ∃ p0 p1 p2, hasErr Fs p0 p1 p2 ∧ b.length ≤ 9223372036854775807 ∧ K (B true) [] []
  | _ => False⟩
theorem k_laws_FnWavesDirect : Keeps' Tryd.prog 4 c_laws_FnWavesDirect := by
  refine keeps_of_vc mix TyT_ok (cok_cons k_spec_DrawCommitWaves Tryd.func10 rfl rfl (cok_cons k_impl_CommitWaves Tryd.func11 rfl rfl (cok_cons k_spec_CommitWaves Tryd.func12 rfl rfl (cok_cons k_laws_sameInts Tryd.func13 rfl rfl (cok_cons k_impl_WaveDirect Tryd.func17 rfl rfl (cok_cons k_laws_hasInt Tryd.func18 rfl rfl cok_nil)))))) Tryd.func4 rfl rfl rfl ?_
  intro aargs hs Fs K h
  simp only [c_laws_FnWavesDirect] at h
  split at h
  case h_2 => exact h.elim
  rename_i b
  obtain ⟨rfl, p0, p1, p2, hE, hb, h⟩ := h
  repeat' (first
    | ((conv => whnf); (first
      | refine Exists.intro p0 (Exists.intro p1 (Exists.intro p2 (And.intro (err_app hE) ?_)))
      | refine brK_dec (fun _ => ?_) (fun _ => ?_)
      | refine brK_ndec (fun _ => ?_) (fun _ => ?_)
      | refine brK_not (fun _ => ?_) (fun _ => ?_)
      | refine brK_in (fun _ => ?_) (fun _ => ?_)
      | refine And.intro (by first | exact rfl | exact ⟨_, rfl, rfl⟩ | exact ⟨rfl, rfl, rfl⟩ | exact of_decide_eq_true rfl | exact trivial | assumption | omega | (show (_ ≤ _ ∧ _ ≤ _); omega) | (simp; omega) | exact ⟨by first | omega | (simp; omega), _, rfl, rfl⟩) ?_
      | refine Both.mk ?_ ?_
      | refine Exists.intro _ (And.intro rfl ?_)
      | refine opt_use (by assumption) ?_
      | refine fun _ => ?_))
    | exact rfl)
  · exact h
  rename_i h1 c g L p3 p4 p5 p6
  have hgs := gfit_small p5
  have hwl := wavI_len (c := c) (g := g) (L := L)
  repeat' (first
    | ((conv => whnf); (first
      | refine Exists.intro p0 (Exists.intro p1 (Exists.intro p2 (And.intro (err_app hE) ?_)))
      | refine brK_dec (fun _ => ?_) (fun _ => ?_)
      | refine brK_ndec (fun _ => ?_) (fun _ => ?_)
      | refine brK_not (fun _ => ?_) (fun _ => ?_)
      | refine brK_in (fun _ => ?_) (fun _ => ?_)
      | refine And.intro (by first | exact rfl | exact ⟨_, rfl, rfl⟩ | exact ⟨rfl, rfl, rfl⟩ | exact of_decide_eq_true rfl | exact trivial | assumption | omega | (show (_ ≤ _ ∧ _ ≤ _); omega) | (simp; omega) | exact ⟨by first | omega | (simp; omega), _, rfl, rfl⟩) ?_
      | refine Both.mk ?_ ?_
      | refine Exists.intro _ (And.intro rfl ?_)
      | refine opt_use (by assumption) ?_
      | refine fun _ => ?_))
    | exact rfl)
  · simpa using h
  refine loop_in (ι := Nat) (fun n => mkS 50 [(3, .ints c), (4, .sl 4 (g.map VxD.row)), (5, .ints L), (6, .own 0), (8, I (n + 1))] [.iarr (wavI c g L)] Fs) (fun n => n ≤ L.length) (fun n => L.length - n) 0 [0] (Nat.zero_le _) ?_ ?_
  · repeat' (first
      | ((conv => whnf); (first
        | refine Exists.intro p0 (Exists.intro p1 (Exists.intro p2 (And.intro (err_app hE) ?_)))
        | refine brK_dec (fun _ => ?_) (fun _ => ?_)
        | refine brK_ndec (fun _ => ?_) (fun _ => ?_)
        | refine brK_not (fun _ => ?_) (fun _ => ?_)
        | refine brK_in (fun _ => ?_) (fun _ => ?_)
        | refine And.intro (by first | exact rfl | exact ⟨_, rfl, rfl⟩ | exact ⟨rfl, rfl, rfl⟩ | exact of_decide_eq_true rfl | exact trivial | assumption | omega | (show (_ ≤ _ ∧ _ ≤ _); omega) | (simp; omega) | exact ⟨by first | omega | (simp; omega), _, rfl, rfl⟩) ?_
        | refine Both.mk ?_ ?_
        | refine Exists.intro _ (And.intro rfl ?_)
        | refine opt_use (by assumption) ?_
        | refine fun _ => ?_))
      | exact rfl)
  intro n hn
  dsimp only at hn ⊢
  repeat' (first
    | ((conv => whnf); (first
      | refine Exists.intro p0 (Exists.intro p1 (Exists.intro p2 (And.intro (err_app hE) ?_)))
      | refine brK_dec (fun _ => ?_) (fun _ => ?_)
      | refine brK_ndec (fun _ => ?_) (fun _ => ?_)
      | refine brK_not (fun _ => ?_) (fun _ => ?_)
      | refine brK_in (fun _ => ?_) (fun _ => ?_)
      | refine And.intro (by first | exact rfl | exact ⟨_, rfl, rfl⟩ | exact ⟨rfl, rfl, rfl⟩ | exact of_decide_eq_true rfl | exact trivial | assumption | omega | (show (_ ≤ _ ∧ _ ≤ _); omega) | (simp; omega) | exact ⟨by first | omega | (simp; omega), _, rfl, rfl⟩) ?_
      | refine Both.mk ?_ ?_
      | refine Exists.intro _ (And.intro rfl ?_)
      | refine Exists.intro (n + 1) (And.intro (by simp) ?_)
      | refine opt_use (by assumption) ?_
      | refine fun _ => ?_))
    | exact rfl)
  · rename_i h2 hd hm
    have hq := dir_mem (n := n + 1) (by omega) (by omega) hd
    exact absurd (by simpa using hq) hm
  · refine ⟨n + 1, [0], by omega, by omega, ?_⟩
    repeat' (first
      | ((conv => whnf); (first
        | refine Exists.intro p0 (Exists.intro p1 (Exists.intro p2 (And.intro (err_app hE) ?_)))
        | refine brK_dec (fun _ => ?_) (fun _ => ?_)
        | refine brK_ndec (fun _ => ?_) (fun _ => ?_)
        | refine brK_not (fun _ => ?_) (fun _ => ?_)
        | refine brK_in (fun _ => ?_) (fun _ => ?_)
        | refine And.intro (by first | exact rfl | exact ⟨_, rfl, rfl⟩ | exact ⟨rfl, rfl, rfl⟩ | exact of_decide_eq_true rfl | exact trivial | assumption | omega | (show (_ ≤ _ ∧ _ ≤ _); omega) | (simp; omega) | exact ⟨by first | omega | (simp; omega), _, rfl, rfl⟩) ?_
        | refine Both.mk ?_ ?_
        | refine Exists.intro _ (And.intro rfl ?_)
        | refine Exists.intro (n + 1) (And.intro (by simp) ?_)
        | refine opt_use (by assumption) ?_
        | refine fun _ => ?_))
      | exact rfl)
  · refine ⟨n + 1, [0], by omega, by omega, ?_⟩
    repeat' (first
      | ((conv => whnf); (first
        | refine Exists.intro p0 (Exists.intro p1 (Exists.intro p2 (And.intro (err_app hE) ?_)))
        | refine brK_dec (fun _ => ?_) (fun _ => ?_)
        | refine brK_ndec (fun _ => ?_) (fun _ => ?_)
        | refine brK_not (fun _ => ?_) (fun _ => ?_)
        | refine brK_in (fun _ => ?_) (fun _ => ?_)
        | refine And.intro (by first | exact rfl | exact ⟨_, rfl, rfl⟩ | exact ⟨rfl, rfl, rfl⟩ | exact of_decide_eq_true rfl | exact trivial | assumption | omega | (show (_ ≤ _ ∧ _ ≤ _); omega) | (simp; omega) | exact ⟨by first | omega | (simp; omega), _, rfl, rfl⟩) ?_
        | refine Both.mk ?_ ?_
        | refine Exists.intro _ (And.intro rfl ?_)
        | refine Exists.intro (n + 1) (And.intro (by simp) ?_)
        | refine opt_use (by assumption) ?_
        | refine fun _ => ?_))
      | exact rfl)
  · exact h
end Go.Proofs.YtenflffikgfphaaDoor
