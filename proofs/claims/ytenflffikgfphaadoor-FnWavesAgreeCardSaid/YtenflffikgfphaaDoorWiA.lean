/-
Linked graphs: places, vertices, the program's checks of one vertex.
No conditions.
-/
import Derived.Test.YtenflffikgfphaaDoorWgA
import Derived.Test.YtenflffikgfphaaDoorVcMH
namespace Go.Proofs.YtenflffikgfphaaDoor
open Go Go.Vc
set_option maxHeartbeats 1000000
set_option maxRecDepth 10000
abbrev nilP : AV := .val (.pointer none)
def plc (b : Nat) (g : List VxD) (x : Nat) : AV := match findV g ((x / 7 : Nat) : Int) ((x % 7 : Nat) : Int) with
  | some i => .rp (b + i) 0 0
  | none => nilP
theorem plcs_ex (b : Nat) (g : List VxD) : ∃ l, l = (List.range 217).map (plc b g) := ⟨_, rfl⟩
/-- The places; chosen, so that nothing looks into the list. -/
noncomputable def plcs (b : Nat) (g : List VxD) : List AV := Classical.choose (plcs_ex b g)
theorem plcs_eq (b : Nat) (g : List VxD) : plcs b g = (List.range 217).map (plc b g) := Classical.choose_spec (plcs_ex b g)
theorem plcs_len {b : Nat} {g : List VxD} : (plcs b g).length = 217 := by simp [plcs_eq]
theorem plc_pure {b : Nat} {g : List VxD} {x : Nat} : pureB (plc b g x) = true := by
  unfold plc
  split <;> rfl
theorem plcs_pure {b : Nat} {g : List VxD} : ∀ x ∈ plcs b g, pureB x = true := by
  intro x hx
  rw [plcs_eq] at hx
  obtain ⟨n, _, rfl⟩ := List.mem_map.1 hx
  exact plc_pure
theorem plcs_map {b : Nat} {g : List VxD} {f : AV → AV} : (plcs b g).map (mapC f) = plcs b g := map_pure plcs_pure
theorem plcs_at {b : Nat} {g : List VxD} {r a : Int} {z : AV} (hr : inR r 0 30 = true) (ha : 0 ≤ a ∧ a ≤ 6) (h : (plcs b g)[r.toNat * 7 + a.toNat]? = some z) : (findV g r a = none → z = nilP) ∧ ∀ i, findV g r a = some i → z = .rp (b + i) 0 0 := by
  have hr := inR_out hr
  rw [plcs_eq, List.getElem?_map, List.getElem?_range (by omega)] at h
  simp only [Option.map_some, Option.some.injEq] at h
  have e1 : ((((r.toNat * 7 + a.toNat) / 7 : Nat) : Int)) = r := by omega
  have e2 : ((((r.toNat * 7 + a.toNat) % 7 : Nat) : Int)) = a := by omega
  unfold plc at h
  rw [e1, e2] at h
  refine ⟨fun e => ?_, fun i e => ?_⟩
  · rw [e] at h; exact h.symm
  · rw [e] at h; exact h.symm
theorem plcs_nil {b : Nat} : plcs b [] = List.replicate 217 nilP := by
  have : plc b [] = fun _ => nilP := rfl
  rw [plcs_eq, this, List.map_const', List.length_range]
theorem find_snoc {g : List VxD} {v : VxD} {r a : Int} : findV (g ++ [v]) r a = match findV g r a with
    | some i => some i
    | none => if v.r = r ∧ v.a = a then some g.length else none := by
  induction g with
  | nil => simp only [List.nil_append, findV, List.length_nil, Option.map_none]
  | cons x g ih =>
    rw [List.cons_append]
    unfold findV
    by_cases h : x.r = r ∧ x.a = a
    · rw [if_pos h, if_pos h]
    · rw [if_neg h, if_neg h, ih]
      cases findV g r a with
      | some i => rfl
      | none => by_cases h2 : v.r = r ∧ v.a = a <;> simp [h2]
/-- A vertex set into its place. -/
theorem plcs_set {b : Nat} {g : List VxD} {v : VxD} (hr : inR v.r 0 30 = true) (ha : 0 ≤ v.a ∧ v.a ≤ 6) (hn : findV g v.r v.a = none) : (plcs b g).set (v.r.toNat * 7 + v.a.toNat) (.rp (b + g.length) 0 0) = plcs b (g ++ [v]) := by
  have hr := inR_out hr
  apply List.ext_getElem?
  intro x
  rw [List.getElem?_set]
  by_cases hx : x < 217
  · rw [plcs_eq, plcs_eq, List.getElem?_map, List.getElem?_range hx, List.getElem?_map, List.getElem?_range hx]
    simp only [Option.map_some, List.length_map, List.length_range]
    unfold plc
    rw [find_snoc]
    by_cases e : v.r.toNat * 7 + v.a.toNat = x
    · rw [if_pos e, if_pos (by omega)]
      have e1 : (((x / 7 : Nat) : Int)) = v.r := by omega
      have e2 : (((x % 7 : Nat) : Int)) = v.a := by omega
      rw [e1, e2, hn]
      simp
    · rw [if_neg e]
      have hne : ¬ (v.r = ((x / 7 : Nat) : Int) ∧ v.a = ((x % 7 : Nat) : Int)) := by omega
      cases findV g ((x / 7 : Nat) : Int) ((x % 7 : Nat) : Int) with
      | some i => rfl
      | none => simp only [if_neg hne]
  · have h1 : (plcs b g)[x]? = none := List.getElem?_eq_none (by rw [plcs_len]; omega)
    have h2 : (plcs b (g ++ [v]))[x]? = none := List.getElem?_eq_none (by rw [plcs_len]; omega)
    rw [if_neg (by omega), h1, h2]
theorem drop_head {α : Type} {l : List α} {m n : Nat} {x : α} {t : List α} (h : (l.drop m).drop n = x :: t) : l[m + n]? = some x := by
  rw [List.drop_drop] at h
  have := congrArg (fun k => k[0]?) h
  simpa using this
theorem drop_nil {α : Type} {l : List α} {m n : Nat} (h : (l.drop m).drop n = []) : l.length ≤ m + n := by
  rw [List.drop_drop] at h
  exact List.drop_eq_nil_iff.1 h
def c_impl_isRound : Con := ⟨0, 0, false, fun xs hs _ K => match xs with
  | [.val (.int .i64 a)] => hs = [] ∧ K (B (inR a 0 30)) [] []
  | _ => False⟩
theorem k_impl_isRound : Keeps' Tryd.prog 60 c_impl_isRound := by
  refine keeps_of_vc mix TyT_ok cok_nil Tryd.func60 rfl rfl rfl ?_
  intro aargs hs Fs K h
  simp only [c_impl_isRound] at h
  split at h
  case h_2 => exact h.elim
  rename_i a
  obtain ⟨rfl, h⟩ := h
  have no : ∀ {b : Bool}, inR a 0 30 = b → K (B b) [] [] := fun e => by rw [← e]; exact h
  repeat' (first
    | ((conv => whnf); (first
      | refine brK_dec (fun _ => ?_) (fun _ => ?_)
      | refine brK_ndec (fun _ => ?_) (fun _ => ?_)
      | refine brK_not (fun _ => ?_) (fun _ => ?_)
      | refine brK_in (fun _ => ?_) (fun _ => ?_)
      | refine And.intro (by first | exact rfl | exact ⟨_, rfl, rfl⟩ | exact ⟨rfl, rfl, rfl⟩ | exact of_decide_eq_true rfl | exact trivial | assumption | omega | (show (_ ≤ _ ∧ _ ≤ _); omega) | (simp; omega) | exact ⟨by first | omega | (simp; omega), _, rfl, rfl⟩) ?_
      | refine Both.mk ?_ ?_
      | refine Exists.intro _ (And.intro rfl ?_)
      | refine fun _ => ?_))
    | exact rfl)
  all_goals (refine no ?_; simp [inR]; try omega)
theorem k_impl_precedes : Keeps' Tryd.prog 58 c_spec_l11Before := by
  refine keeps_of_vc mix TyT_ok cok_nil Tryd.func58 rfl rfl rfl ?_
  intro aargs hs Fs K h
  simp only [c_spec_l11Before] at h
  split at h
  case h_2 => exact h.elim
  rename_i r a p d r' a' p' d'
  obtain ⟨rfl, h⟩ := h
  simp only [ltB] at h
  repeat' (first
    | ((conv => whnf); (first
      | refine brK_dec (fun _ => ?_) (fun _ => ?_)
      | refine brK_ndec (fun _ => ?_) (fun _ => ?_)
      | refine brK_not (fun _ => ?_) (fun _ => ?_)
      | refine brK_in (fun _ => ?_) (fun _ => ?_)
      | refine And.intro (by first | exact rfl | exact ⟨_, rfl, rfl⟩ | exact ⟨rfl, rfl, rfl⟩ | exact of_decide_eq_true rfl | exact trivial | assumption | omega | (show (_ ≤ _ ∧ _ ≤ _); omega) | (simp; omega) | exact ⟨by first | omega | (simp; omega), _, rfl, rfl⟩) ?_
      | refine Both.mk ?_ ?_
      | refine Exists.intro _ (And.intro rfl ?_)
      | refine fun _ => ?_))
    | exact rfl)
  · rename_i h1
    rw [decide_eq_true h1] at h
    exact h
  · rename_i h1 h2
    rw [decide_eq_false h1, decide_eq_true h2] at h
    exact h
  · rename_i h1 h2
    rw [decide_eq_false h1, decide_eq_false h2] at h
    exact h
def c_impl_VertexValid : Con := ⟨0, 0, false, fun xs hs _ K => match xs with
  | [.ints c, .agg [.val (.int .i64 r), .val (.int .i64 a), .ints p, .val (.int .i64 d)]] => hs = [] ∧ c.length < 2000000 ∧ p.length < 2000000 ∧ K (B (comV c && vxV c ⟨r, a, p, d⟩)) [] []
  | _ => False⟩
theorem k_impl_VertexValid : Keeps' Tryd.prog 57 c_impl_VertexValid := by
  refine keeps_of_vc mix TyT_ok (cok_cons k_impl_MembersValid Tryd.func75 rfl rfl (cok_cons k_impl_isRound Tryd.func60 rfl rfl (cok_cons k_impl_committee_has Tryd.func61 rfl rfl (cok_cons k_impl_isDigest Tryd.func76 rfl rfl (cok_cons k_impl_MembersWeight Tryd.func77 rfl rfl (cok_cons k_impl_CommitteeQuorum Tryd.func78 rfl rfl cok_nil)))))) Tryd.func57 rfl rfl rfl ?_
  intro aargs hs Fs K h
  simp only [c_impl_VertexValid] at h
  split at h
  case h_2 => exact h.elim
  rename_i c r a p d
  obtain ⟨rfl, hc, hp, h⟩ := h
  have no : ∀ {b : Bool}, (comV c && vxV c ⟨r, a, p, d⟩) = b → K (B b) [] [] := fun e => by rw [← e]; exact h
  repeat' (first
    | ((conv => whnf); (first
      | refine brK_dec (fun _ => ?_) (fun _ => ?_)
      | refine brK_ndec (fun _ => ?_) (fun _ => ?_)
      | refine brK_not (fun _ => ?_) (fun _ => ?_)
      | refine brK_in (fun _ => ?_) (fun _ => ?_)
      | refine And.intro (by first | exact rfl | exact ⟨_, rfl, rfl⟩ | exact ⟨rfl, rfl, rfl⟩ | exact of_decide_eq_true rfl | exact trivial | assumption | omega | (show (_ ≤ _ ∧ _ ≤ _); omega) | (simp; omega) | exact ⟨by first | omega | (simp; omega), _, rfl, rfl⟩) ?_
      | refine Both.mk ?_ ?_
      | refine Exists.intro _ (And.intro rfl ?_)
      | refine fun _ => ?_))
    | exact rfl)
  all_goals (refine no ?_; simp_all [vxV])
def gin (c : List Int) (g : List VxD) : Prop := ∀ v ∈ g, inR v.r 0 30 = true ∧ inR v.a 0 ((c.length : Int) - 1) = true
theorem gin_find {c : List Int} {g : List VxD} (h : gin c g) {r a : Int} (hn : inR r 0 30 = false ∨ inR a 0 ((c.length : Int) - 1) = false) : findV g r a = none := by
  cases e : findV g r a with
  | none => rfl
  | some i =>
    obtain ⟨v, hv, rfl, rfl⟩ := find_out e
    have := h v (List.mem_of_getElem? hv)
    rcases hn with hn | hn
    · rw [this.1] at hn; cases hn
    · rw [this.2] at hn; cases hn
def c_impl_graph_at : Con := ⟨0, 0, false, fun xs hs _ K => match xs with
  | [.ro (.ints c :: _ :: pl), .val (.int .i64 r), .val (.int .i64 a)] => hs = [] ∧ comV c = true ∧ ∃ b g, pl = plcs b g ∧ gin c g ∧ Both (findV g r a = none → K nilP [] []) (∀ i, findV g r a = some i → K (.rp (b + i) 0 0) [] [])
  | _ => False⟩
theorem k_impl_graph_at : Keeps' Tryd.prog 36 c_impl_graph_at := by
  refine keeps_of_vc mix TyT_ok (cok_cons k_impl_isRound Tryd.func60 rfl rfl (cok_cons k_impl_committee_has Tryd.func61 rfl rfl cok_nil)) Tryd.func36 rfl rfl rfl ?_
  intro aargs hs Fs K h
  simp only [c_impl_graph_at] at h
  split at h
  case h_2 => exact h.elim
  rename_i c x pl r a
  obtain ⟨rfl, hc, b, g, rfl, hgi, h1, h2⟩ := h
  obtain ⟨hc1, hc2, hcx⟩ := com_out hc
  repeat' (first
    | ((conv => whnf); (first
      | refine brK_dec (fun _ => ?_) (fun _ => ?_)
      | refine brK_ndec (fun _ => ?_) (fun _ => ?_)
      | refine brK_not (fun _ => ?_) (fun _ => ?_)
      | refine brK_in (fun _ => ?_) (fun _ => ?_)
      | refine And.intro (by first | exact rfl | exact ⟨_, rfl, rfl⟩ | exact ⟨rfl, rfl, rfl⟩ | exact of_decide_eq_true rfl | exact trivial | assumption | omega | (show (_ ≤ _ ∧ _ ≤ _); omega) | (simp; omega) | exact ⟨by first | omega | (simp; omega), _, rfl, rfl⟩) ?_
      | refine Both.mk ?_ ?_
      | refine Exists.intro _ (And.intro rfl ?_)
      | refine fun _ => ?_))
    | exact rfl)
  · rename_i e
    exact h1 (gin_find hgi (.inl e))
  rotate_left
  all_goals try (rename_i e1 e2; exact h1 (gin_find hgi (.inr e2)))
  rename_i e1 e2
  have q1 := inR_out e1
  have q2 := inR_out e2
  repeat' (first
    | ((conv => whnf); (first
      | refine brK_dec (fun _ => ?_) (fun _ => ?_)
      | refine brK_ndec (fun _ => ?_) (fun _ => ?_)
      | refine brK_not (fun _ => ?_) (fun _ => ?_)
      | refine brK_in (fun _ => ?_) (fun _ => ?_)
      | refine And.intro (by first | exact rfl | exact (by first | exact q1.1 | exact q2.1 | (show r < (31 : Int); omega) | (show a < (7 : Int); omega)) | exact ⟨_, rfl, rfl⟩ | exact ⟨rfl, rfl, rfl⟩ | exact of_decide_eq_true rfl | exact trivial | assumption | omega | (show (_ ≤ _ ∧ _ ≤ _); omega) | (simp; omega) | exact ⟨by first | omega | (simp; omega), _, rfl, rfl⟩) ?_
      | refine Both.mk ?_ ?_
      | refine Exists.intro _ (And.intro rfl ?_)
      | refine fun _ => ?_))
    | exact rfl)
  conv => whnf
  split
  · rename_i z t hz
    have hz : (plcs b g)[r.toNat * 7 + a.toNat * 1]? = some z := drop_head hz
    rw [Nat.mul_one] at hz
    have hz2 := plcs_at e1 (by omega) hz
    cases hf : findV g r a with
    | none =>
      rw [hz2.1 hf]
      repeat' (first
        | ((conv => whnf); (first
          | refine brK_dec (fun _ => ?_) (fun _ => ?_)
          | refine brK_ndec (fun _ => ?_) (fun _ => ?_)
          | refine brK_not (fun _ => ?_) (fun _ => ?_)
          | refine brK_in (fun _ => ?_) (fun _ => ?_)
          | refine And.intro (by first | exact rfl | exact ⟨_, rfl, rfl⟩ | exact ⟨rfl, rfl, rfl⟩ | exact of_decide_eq_true rfl | exact trivial | assumption | omega | (show (_ ≤ _ ∧ _ ≤ _); omega) | (simp; omega) | exact ⟨by first | omega | (simp; omega), _, rfl, rfl⟩) ?_
          | refine Both.mk ?_ ?_
          | refine Exists.intro _ (And.intro rfl ?_)
          | refine fun _ => ?_))
        | exact rfl)
      exact h1 hf
    | some i =>
      rw [hz2.2 i hf]
      repeat' (first
        | ((conv => whnf); (first
          | refine brK_dec (fun _ => ?_) (fun _ => ?_)
          | refine brK_ndec (fun _ => ?_) (fun _ => ?_)
          | refine brK_not (fun _ => ?_) (fun _ => ?_)
          | refine brK_in (fun _ => ?_) (fun _ => ?_)
          | refine And.intro (by first | exact rfl | exact ⟨_, rfl, rfl⟩ | exact ⟨rfl, rfl, rfl⟩ | exact of_decide_eq_true rfl | exact trivial | assumption | omega | (show (_ ≤ _ ∧ _ ≤ _); omega) | (simp; omega) | exact ⟨by first | omega | (simp; omega), _, rfl, rfl⟩) ?_
          | refine Both.mk ?_ ?_
          | refine Exists.intro _ (And.intro rfl ?_)
          | refine fun _ => ?_))
        | exact rfl)
      exact h2 i hf
  · rename_i hz
    have hz : (plcs b g).length ≤ r.toNat * 7 + a.toNat * 1 := drop_nil hz
    rw [plcs_len] at hz
    omega
end Go.Proofs.YtenflffikgfphaaDoor
