/-
Linked graphs: places, vertices, the program's checks of one vertex.
Linked graphs: a vertex is linked.
Linked graphs: the first vertex is linked.
Linked graphs: the whole graph is linked.
Linked graphs: what 'linkGraph' hands back, as memory that is only read.
No conditions.
-/
import Derived.Test.YtalbgcpfekmfoaaWgX
import Derived.Test.YtalbgcpfekmfoaaVcMH
namespace Go.Proofs.Ytalbgcpfekmfoaa
open Go Go.Vc
set_option maxHeartbeats 1000000
set_option maxRecDepth 10000
abbrev nilP : AV := .val (.pointer none)
def plc (b : Nat) (g : List VxD) (x : Nat) : AV := match findV g ((x / 7 : Nat) : Int) ((x % 7 : Nat) : Int) with
  | some i => .rp (b + i) 0 0
  | none => nilP
theorem plcs_ex (b : Nat) (g : List VxD) : ∃ l, l = (List.range 217).map (plc b g) := ⟨_, rfl⟩
/-- The places; chosen, so that nothing looks into the list. -/
noncomputable def plcs (b : Nat) (g : List VxD) : List AV := Classical.choose (plcs_ex b g)
theorem plcs_eq (b : Nat) (g : List VxD) : plcs b g = (List.range 217).map (plc b g) := Classical.choose_spec (plcs_ex b g)
theorem plcs_len {b : Nat} {g : List VxD} : (plcs b g).length = 217 := by simp [plcs_eq]
theorem plc_pure {b : Nat} {g : List VxD} {x : Nat} : pureB (plc b g x) = true := by
  unfold plc
  split <;> rfl
theorem plcs_pure {b : Nat} {g : List VxD} : ∀ x ∈ plcs b g, pureB x = true := by
  intro x hx
  rw [plcs_eq] at hx
  obtain ⟨n, _, rfl⟩ := List.mem_map.1 hx
  exact plc_pure
theorem plcs_map {b : Nat} {g : List VxD} {f : AV → AV} : (plcs b g).map (mapC f) = plcs b g := map_pure plcs_pure
theorem plcs_at {b : Nat} {g : List VxD} {r a : Int} {z : AV} (hr : inR r 0 30 = true) (ha : 0 ≤ a ∧ a ≤ 6) (h : (plcs b g)[r.toNat * 7 + a.toNat]? = some z) : (findV g r a = none → z = nilP) ∧ ∀ i, findV g r a = some i → z = .rp (b + i) 0 0 := by
  have hr := inR_out hr
  rw [plcs_eq, List.getElem?_map, List.getElem?_range (by omega)] at h
  simp only [Option.map_some, Option.some.injEq] at h
  have e1 : ((((r.toNat * 7 + a.toNat) / 7 : Nat) : Int)) = r := by omega
  have e2 : ((((r.toNat * 7 + a.toNat) % 7 : Nat) : Int)) = a := by omega
  unfold plc at h
  rw [e1, e2] at h
  refine ⟨fun e => ?_, fun i e => ?_⟩
  · rw [e] at h; exact h.symm
  · rw [e] at h; exact h.symm
theorem plcs_nil {b : Nat} : plcs b [] = List.replicate 217 nilP := by
  have : plc b [] = fun _ => nilP := rfl
  rw [plcs_eq, this, List.map_const', List.length_range]
theorem find_snoc {g : List VxD} {v : VxD} {r a : Int} : findV (g ++ [v]) r a = match findV g r a with
    | some i => some i
    | none => if v.r = r ∧ v.a = a then some g.length else none := by
  induction g with
  | nil => simp only [List.nil_append, findV, List.length_nil, Option.map_none]
  | cons x g ih =>
    rw [List.cons_append]
    unfold findV
    by_cases h : x.r = r ∧ x.a = a
    · rw [if_pos h, if_pos h]
    · rw [if_neg h, if_neg h, ih]
      cases findV g r a with
      | some i => rfl
      | none => by_cases h2 : v.r = r ∧ v.a = a <;> simp [h2]
/-- A vertex set into its place. -/
theorem plcs_set {b : Nat} {g : List VxD} {v : VxD} (hr : inR v.r 0 30 = true) (ha : 0 ≤ v.a ∧ v.a ≤ 6) (hn : findV g v.r v.a = none) : (plcs b g).set (v.r.toNat * 7 + v.a.toNat) (.rp (b + g.length) 0 0) = plcs b (g ++ [v]) := by
  have hr := inR_out hr
  apply List.ext_getElem?
  intro x
  rw [List.getElem?_set]
  by_cases hx : x < 217
  · rw [plcs_eq, plcs_eq, List.getElem?_map, List.getElem?_range hx, List.getElem?_map, List.getElem?_range hx]
    simp only [Option.map_some, List.length_map, List.length_range]
    unfold plc
    rw [find_snoc]
    by_cases e : v.r.toNat * 7 + v.a.toNat = x
    · rw [if_pos e, if_pos (by omega)]
      have e1 : (((x / 7 : Nat) : Int)) = v.r := by omega
      have e2 : (((x % 7 : Nat) : Int)) = v.a := by omega
      rw [e1, e2, hn]
      simp
    · rw [if_neg e]
      have hne : ¬ (v.r = ((x / 7 : Nat) : Int) ∧ v.a = ((x % 7 : Nat) : Int)) := by omega
      cases findV g ((x / 7 : Nat) : Int) ((x % 7 : Nat) : Int) with
      | some i => rfl
      | none => simp only [if_neg hne]
  · have h1 : (plcs b g)[x]? = none := List.getElem?_eq_none (by rw [plcs_len]; omega)
    have h2 : (plcs b (g ++ [v]))[x]? = none := List.getElem?_eq_none (by rw [plcs_len]; omega)
    rw [if_neg (by omega), h1, h2]
theorem drop_head {α : Type} {l : List α} {m n : Nat} {x : α} {t : List α} (h : (l.drop m).drop n = x :: t) : l[m + n]? = some x := by
  rw [List.drop_drop] at h
  have := congrArg (fun k => k[0]?) h
  simpa using this
theorem drop_nil {α : Type} {l : List α} {m n : Nat} (h : (l.drop m).drop n = []) : l.length ≤ m + n := by
  rw [List.drop_drop] at h
  exact List.drop_eq_nil_iff.1 h
def c_impl_isRound : Con := ⟨0, 0, false, fun xs hs _ K => match xs with
  | [.val (.int .i64 a)] => hs = [] ∧ K (B (inR a 0 30)) [] []
  | _ => False⟩
theorem k_impl_isRound : Keeps' Try.prog 58 c_impl_isRound := by
  refine keeps_of_vc mix TyT_ok cok_nil Try.func58 rfl rfl rfl ?_
  intro aargs hs Fs K h
  simp only [c_impl_isRound] at h
  split at h
  case h_2 => exact h.elim
  rename_i a
  obtain ⟨rfl, h⟩ := h
  have no : ∀ {b : Bool}, inR a 0 30 = b → K (B b) [] [] := fun e => by rw [← e]; exact h
  repeat' (first|((conv=>whnf); (first|refine brK_dec (fun _=>?_) (fun _=>?_)|refine brK_ndec (fun _=>?_) (fun _=>?_)|refine brK_not (fun _=>?_) (fun _=>?_)|refine brK_in (fun _=>?_) (fun _=>?_)|refine And.intro (by first|exact rfl|exact ⟨_,rfl,rfl⟩|exact ⟨rfl,rfl,rfl⟩|exact of_decide_eq_true rfl|exact trivial|assumption|omega|(show (_ ≤ _ ∧ _ ≤ _); omega)|(simp; omega)|exact ⟨by first|omega|(simp; omega),_,rfl,rfl⟩) ?_|refine Quo.l (And.intro (by first|exact rfl|assumption|omega|(simp; omega)) ?_)|refine Quo.r (And.intro (by omega) ?_)|refine Both.mk ?_ ?_|refine Exists.intro _ (And.intro rfl ?_)|refine fun _=>?_))|exact rfl)
  all_goals (refine no ?_; simp [inR]; try omega)
theorem k_impl_precedes : Keeps' Try.prog 46 c_spec_l11Before := by
  refine keeps_of_vc mix TyT_ok cok_nil Try.func46 rfl rfl rfl ?_
  intro aargs hs Fs K h
  simp only [c_spec_l11Before] at h
  split at h
  case h_2 => exact h.elim
  rename_i r a p d r' a' p' d'
  obtain ⟨rfl, h⟩ := h
  simp only [ltB] at h
  repeat' (first|((conv=>whnf); (first|refine brK_dec (fun _=>?_) (fun _=>?_)|refine brK_ndec (fun _=>?_) (fun _=>?_)|refine brK_not (fun _=>?_) (fun _=>?_)|refine brK_in (fun _=>?_) (fun _=>?_)|refine And.intro (by first|exact rfl|exact ⟨_,rfl,rfl⟩|exact ⟨rfl,rfl,rfl⟩|exact of_decide_eq_true rfl|exact trivial|assumption|omega|(show (_ ≤ _ ∧ _ ≤ _); omega)|(simp; omega)|exact ⟨by first|omega|(simp; omega),_,rfl,rfl⟩) ?_|refine Quo.l (And.intro (by first|exact rfl|assumption|omega|(simp; omega)) ?_)|refine Quo.r (And.intro (by omega) ?_)|refine Both.mk ?_ ?_|refine Exists.intro _ (And.intro rfl ?_)|refine fun _=>?_))|exact rfl)
  · rename_i h1
    rw [decide_eq_true h1] at h
    exact h
  · rename_i h1 h2
    rw [decide_eq_false h1, decide_eq_true h2] at h
    exact h
  · rename_i h1 h2
    rw [decide_eq_false h1, decide_eq_false h2] at h
    exact h
def c_impl_VertexValid : Con := ⟨0, 0, false, fun xs hs _ K => match xs with
  | [.ints c, .agg [.val (.int .i64 r), .val (.int .i64 a), .ints p, .val (.int .i64 d)]] => hs = [] ∧ c.length < 2000000 ∧ p.length < 2000000 ∧ K (B (comV c && vxV c ⟨r, a, p, d⟩)) [] []
  | _ => False⟩
theorem k_impl_VertexValid : Keeps' Try.prog 42 c_impl_VertexValid := by
  refine keeps_of_vc mix TyT_ok (cok_cons k_impl_MembersValid Try.func77 rfl rfl (cok_cons k_impl_isRound Try.func58 rfl rfl (cok_cons k_impl_committee_has Try.func78 rfl rfl (cok_cons k_impl_isDigest Try.func60 rfl rfl (cok_cons k_impl_MembersWeight Try.func79 rfl rfl (cok_cons k_impl_CommitteeQuorum Try.func80 rfl rfl cok_nil)))))) Try.func42 rfl rfl rfl ?_
  intro aargs hs Fs K h
  simp only [c_impl_VertexValid] at h
  split at h
  case h_2 => exact h.elim
  rename_i c r a p d
  obtain ⟨rfl, hc, hp, h⟩ := h
  have no : ∀ {b : Bool}, (comV c && vxV c ⟨r, a, p, d⟩) = b → K (B b) [] [] := fun e => by rw [← e]; exact h
  repeat' (first|((conv=>whnf); (first|refine brK_dec (fun _=>?_) (fun _=>?_)|refine brK_ndec (fun _=>?_) (fun _=>?_)|refine brK_not (fun _=>?_) (fun _=>?_)|refine brK_in (fun _=>?_) (fun _=>?_)|refine And.intro (by first|exact rfl|exact ⟨_,rfl,rfl⟩|exact ⟨rfl,rfl,rfl⟩|exact of_decide_eq_true rfl|exact trivial|assumption|omega|(show (_ ≤ _ ∧ _ ≤ _); omega)|(simp; omega)|exact ⟨by first|omega|(simp; omega),_,rfl,rfl⟩) ?_|refine Quo.l (And.intro (by first|exact rfl|assumption|omega|(simp; omega)) ?_)|refine Quo.r (And.intro (by omega) ?_)|refine Both.mk ?_ ?_|refine Exists.intro _ (And.intro rfl ?_)|refine fun _=>?_))|exact rfl)
  all_goals (refine no ?_; simp_all [vxV])
def gin (c : List Int) (g : List VxD) : Prop := ∀ v ∈ g, inR v.r 0 30 = true ∧ inR v.a 0 ((c.length : Int) - 1) = true
theorem gin_find {c : List Int} {g : List VxD} (h : gin c g) {r a : Int} (hn : inR r 0 30 = false ∨ inR a 0 ((c.length : Int) - 1) = false) : findV g r a = none := by
  cases e : findV g r a with
  | none => rfl
  | some i =>
    obtain ⟨v, hv, rfl, rfl⟩ := find_out e
    have := h v (List.mem_of_getElem? hv)
    rcases hn with hn | hn
    · rw [this.1] at hn; cases hn
    · rw [this.2] at hn; cases hn
def c_impl_graph_at : Con := ⟨0, 0, false, fun xs hs _ K => match xs with
  | [.ro (.ints c :: _ :: pl), .val (.int .i64 r), .val (.int .i64 a)] => hs = [] ∧ comV c = true ∧ ∃ b g, pl = plcs b g ∧ gin c g ∧ Both (findV g r a = none → K nilP [] []) (∀ i, findV g r a = some i → K (.rp (b + i) 0 0) [] [])
  | _ => False⟩
theorem k_impl_graph_at : Keeps' Try.prog 44 c_impl_graph_at := by
  refine keeps_of_vc mix TyT_ok (cok_cons k_impl_isRound Try.func58 rfl rfl (cok_cons k_impl_committee_has Try.func78 rfl rfl cok_nil)) Try.func44 rfl rfl rfl ?_
  intro aargs hs Fs K h
  simp only [c_impl_graph_at] at h
  split at h
  case h_2 => exact h.elim
  rename_i c x pl r a
  obtain ⟨rfl, hc, b, g, rfl, hgi, h1, h2⟩ := h
  obtain ⟨hc1, hc2, hcx⟩ := com_out hc
  repeat' (first|((conv=>whnf); (first|refine brK_dec (fun _=>?_) (fun _=>?_)|refine brK_ndec (fun _=>?_) (fun _=>?_)|refine brK_not (fun _=>?_) (fun _=>?_)|refine brK_in (fun _=>?_) (fun _=>?_)|refine And.intro (by first|exact rfl|exact ⟨_,rfl,rfl⟩|exact ⟨rfl,rfl,rfl⟩|exact of_decide_eq_true rfl|exact trivial|assumption|omega|(show (_ ≤ _ ∧ _ ≤ _); omega)|(simp; omega)|exact ⟨by first|omega|(simp; omega),_,rfl,rfl⟩) ?_|refine Quo.l (And.intro (by first|exact rfl|assumption|omega|(simp; omega)) ?_)|refine Quo.r (And.intro (by omega) ?_)|refine Both.mk ?_ ?_|refine Exists.intro _ (And.intro rfl ?_)|refine fun _=>?_))|exact rfl)
  · rename_i e
    exact h1 (gin_find hgi (.inl e))
  rotate_left
  all_goals try (rename_i e1 e2; exact h1 (gin_find hgi (.inr e2)))
  rename_i e1 e2
  have q1 := inR_out e1
  have q2 := inR_out e2
  repeat' (first|((conv=>whnf); (first|refine brK_dec (fun _=>?_) (fun _=>?_)|refine brK_ndec (fun _=>?_) (fun _=>?_)|refine brK_not (fun _=>?_) (fun _=>?_)|refine brK_in (fun _=>?_) (fun _=>?_)|refine And.intro (by first|exact rfl|exact (by first|exact q1.1|exact q2.1|(show r < (31 : Int); omega)|(show a < (7 : Int); omega))|exact ⟨_,rfl,rfl⟩|exact ⟨rfl,rfl,rfl⟩|exact of_decide_eq_true rfl|exact trivial|assumption|omega|(show (_ ≤ _ ∧ _ ≤ _); omega)|(simp; omega)|exact ⟨by first|omega|(simp; omega),_,rfl,rfl⟩) ?_|refine Quo.l (And.intro (by first|exact rfl|exact (by first|exact q1.1|exact q2.1|(show r < (31 : Int); omega)|(show a < (7 : Int); omega))|assumption|omega|(simp; omega)) ?_)|refine Quo.r (And.intro (by omega) ?_)|refine Both.mk ?_ ?_|refine Exists.intro _ (And.intro rfl ?_)|refine fun _=>?_))|exact rfl)
  conv => whnf
  split
  · rename_i z t hz
    have hz : (plcs b g)[r.toNat * 7 + a.toNat * 1]? = some z := drop_head hz
    rw [Nat.mul_one] at hz
    have hz2 := plcs_at e1 (by omega) hz
    cases hf : findV g r a with
    | none =>
      rw [hz2.1 hf]
      repeat' (first|((conv=>whnf); (first|refine brK_dec (fun _=>?_) (fun _=>?_)|refine brK_ndec (fun _=>?_) (fun _=>?_)|refine brK_not (fun _=>?_) (fun _=>?_)|refine brK_in (fun _=>?_) (fun _=>?_)|refine And.intro (by first|exact rfl|exact ⟨_,rfl,rfl⟩|exact ⟨rfl,rfl,rfl⟩|exact of_decide_eq_true rfl|exact trivial|assumption|omega|(show (_ ≤ _ ∧ _ ≤ _); omega)|(simp; omega)|exact ⟨by first|omega|(simp; omega),_,rfl,rfl⟩) ?_|refine Quo.l (And.intro (by first|exact rfl|assumption|omega|(simp; omega)) ?_)|refine Quo.r (And.intro (by omega) ?_)|refine Both.mk ?_ ?_|refine Exists.intro _ (And.intro rfl ?_)|refine fun _=>?_))|exact rfl)
      exact h1 hf
    | some i =>
      rw [hz2.2 i hf]
      repeat' (first|((conv=>whnf); (first|refine brK_dec (fun _=>?_) (fun _=>?_)|refine brK_ndec (fun _=>?_) (fun _=>?_)|refine brK_not (fun _=>?_) (fun _=>?_)|refine brK_in (fun _=>?_) (fun _=>?_)|refine And.intro (by first|exact rfl|exact ⟨_,rfl,rfl⟩|exact ⟨rfl,rfl,rfl⟩|exact of_decide_eq_true rfl|exact trivial|assumption|omega|(show (_ ≤ _ ∧ _ ≤ _); omega)|(simp; omega)|exact ⟨by first|omega|(simp; omega),_,rfl,rfl⟩) ?_|refine Quo.l (And.intro (by first|exact rfl|assumption|omega|(simp; omega)) ?_)|refine Quo.r (And.intro (by omega) ?_)|refine Both.mk ?_ ?_|refine Exists.intro _ (And.intro rfl ?_)|refine fun _=>?_))|exact rfl)
      exact h2 i hf
  · rename_i hz
    have hz : (plcs b g).length ≤ r.toNat * 7 + a.toNat * 1 := drop_nil hz
    rw [plcs_len] at hz
    omega
end Go.Proofs.Ytalbgcpfekmfoaa
namespace Go.Proofs.Ytalbgcpfekmfoaa
open Go Go.Vc
set_option maxHeartbeats 4000000
set_option maxRecDepth 10000
abbrev rpRows (b : Nat) (l : List Nat) : List (List AV) := l.map fun j => [.rp (b + j) 0 0]
/-- The parents of a node, as they stand in its block. -/
def parC (b : Nat) : List Nat → AV
  | [] => .val (.slice none 0 0)
  | j :: l => .sl 1 (rpRows b (j :: l))
def nodeF (b : Nat) (g : List VxD) (i : Nat) (r a : Int) (p : List Int) (d : Int) : Fam := ⟨none, [[I r, I a, .ints p, I d, I i, parC b (p.filterMap fun x => findV g (r - 1) x)]]⟩
/-- The parents of v found in g, in the order of the list. -/
def parL (g : List VxD) (r : Int) (p : List Int) : List Nat := p.filterMap fun a => findV g (r - 1) a
theorem app_new {α : Type} {es : List α} {x : α} {t : List α} {X Y : Prop} (h : es = x :: t) (hy : Y) : (es = [] → X) ∧ (es ≠ [] → Y) := ⟨fun e => (by rw [h] at e; cases e), fun _ => hy⟩
theorem keep_link {c : List Int} {b : Nat} {g : List VxD} {rows : List (List AV)} {t : List AO} {x : Bool} : keepOf 2 (.cells (.ints c :: .own 1 :: plcs b g) :: .arr 1 rows :: t) (B x) = [] := by
  have h : refsO (.cells (.ints c :: .own 1 :: plcs b g)) = [1] := by
    show List.flatMap refsC _ = _
    rw [List.flatMap_cons, List.flatMap_cons, refs_pure plcs_pure]
    rfl
  have e : (List.take 2 (AO.cells (.ints c :: .own 1 :: plcs b g) :: .arr 1 rows :: t)).flatMap refsO = [1] := by
    rw [List.take_succ_cons, List.take_succ_cons, List.take_zero, List.flatMap_cons, List.flatMap_cons, h]
    rfl
  unfold keepOf
  rw [e]
  rfl
theorem splice_set {α : Type} {x y v : α} {l : List α} {m : Nat} (h : m < l.length) : splice (x :: y :: l) (2 + m) [v] = x :: y :: l.set m v := by
  unfold splice
  have e1 : 2 + m = (m + 1) + 1 := by omega
  have e2 : 2 + m + [v].length = (m + 1 + 1) + 1 := by simp; omega
  rw [e2, e1, List.take_succ_cons, List.take_succ_cons, List.drop_succ_cons, List.drop_succ_cons, List.set_eq_take_append_cons_drop, if_pos h]
  rfl
theorem plc_store {b n : Nat} {g : List VxD} {x y : AV} {r a d : Int} {p : List Int} (hn : n = b + g.length) (hr : 0 ≤ r ∧ r ≤ 30) (ha : 0 ≤ a ∧ a ≤ 6) (hf : findV g r a = none) :
    splice (x :: y :: plcs b g) (2 + r.toNat * 7 + a.toNat * 1) [.rp n 0 0] = x :: y :: plcs b (g ++ [⟨r, a, p, d⟩]) := by
  have e : 2 + r.toNat * 7 + a.toNat * 1 = 2 + (r.toNat * 7 + a.toNat) := by omega
  have hr2 : inR r 0 30 = true := by simp [inR]; omega
  have := plcs_set (b := b) (v := ⟨r, a, p, d⟩) hr2 ha hf
  rw [e, splice_set (by rw [plcs_len]; omega), hn, this]
theorem rows_snoc {b : Nat} {l : List Nat} {j : Nat} {X : List (List AV)} (h : X = [[.rp (b + j) 0 0]]) : rpRows b (l ++ [j]) = (rpRows b l).take (rpRows b l).length ++ X := by
  rw [List.take_length, h]
  simp [rpRows]
theorem rows_fin {b n m : Nat} {X : List (List AV)} (hn : n = b + m) (h : X = [[.rp n 0 0]]) : (rpRows b (List.range m)).take (rpRows b (List.range m)).length ++ X = rpRows b (List.range (m + 1)) := by
  rw [List.range_succ, rows_snoc (b := b) (l := List.range m) (j := m) (X := X) (by rw [h, hn])]
theorem parC_some {b : Nat} {l : List Nat} (h : 0 < l.length) : parC b l = .sl 1 (rpRows b l) := by
  cases l with
  | nil => simp at h
  | cons j l => rfl
theorem parL_snoc {g : List VxD} {r : Int} {p : List Int} {k j : Nat} {x : Int} (hx : p[k]? = some x) (hj : findV g (r - 1) x = some j) : parL g r (p.take (k + 1)) = parL g r (p.take k) ++ [j] := by
  unfold parL
  rw [List.take_add_one, hx, List.filterMap_append]
  simp [hj]
theorem parL_full {g : List VxD} {r : Int} {p : List Int} (h : ∀ (j : Nat) x, j < p.length → p[j]? = some x → (findV g (r - 1) x).isSome = true) : ∀ {k : Nat}, k ≤ p.length → (parL g r (p.take k)).length = k
  | 0, _ => by simp [parL]
  | k + 1, hk => by
    have hx : p[k]? = some (p[k]'(by omega)) := List.getElem?_eq_getElem (by omega)
    obtain ⟨i, hi⟩ := Option.isSome_iff_exists.1 (h k _ (by omega) hx)
    rw [parL_snoc hx hi, List.length_append, parL_full h (by omega)]
    rfl
theorem parL_len {g : List VxD} {r : Int} {p : List Int} : (parL g r p).length ≤ p.length := List.length_filterMap_le _ _
def c_impl_graph_link : Con := ⟨3, 1, true, fun xs hs Fs K => match xs, hs with
  | [.ptr 0 0, .agg [.val (.int .i64 r), .val (.int .i64 a), .ints p, .val (.int .i64 d)]], [.cells (.ints c :: .own 1 :: pl), .arr 1 rows] =>
    ∃ b g, pl = plcs b g ∧ rows = rpRows b (List.range g.length) ∧ Fs.length = b + g.length ∧ comV c = true ∧ gin c g ∧ vxV c ⟨r, a, p, d⟩ = true ∧ findV g r a = none ∧ g.length < 2000000 ∧ p.length < 2000000 ∧
      Both (parB g ⟨r, a, p, d⟩ = false → K (B false) [.cells (.ints c :: .own 1 :: plcs b g), .arr 1 (rpRows b (List.range g.length))] []) (parB g ⟨r, a, p, d⟩ = true → K (B true) [.cells (.ints c :: .own 1 :: plcs b (g ++ [⟨r, a, p, d⟩])), .arr 1 (rpRows b (List.range (g.length + 1)))]
        [nodeF b g g.length r a p d])
  | _, _ => False⟩
theorem k_impl_graph_link : Keeps' Try.prog 76 c_impl_graph_link := by
  refine keeps_of_vc mix TyT_ok (cok_cons k_impl_graph_at Try.func44 rfl rfl cok_nil) Try.func76 rfl rfl rfl ?_
  intro aargs hs Fs K h
  simp only [c_impl_graph_link] at h
  split at h
  case h_2 => exact h.elim
  rename_i r a p d c pl rows
  obtain ⟨b, g, rfl, rfl, hF, hc, hgi, hv, hn, hgl, hp, hno, hyes⟩ := h
  obtain ⟨hc1, hc2, hcx⟩ := com_out hc
  have hvo := vx_out hv
  have hr : 0 ≤ r ∧ r ≤ 30 := hvo.1
  have ha : 0 ≤ a ∧ a < c.length := hvo.2.1
  have hFe : (Fs ++ ([] : List Fam)).length = b + g.length := by simpa using hF
  have hst := plc_store (x := .ints c) (y := .own 1) (d := d) (p := p) hFe hr ⟨ha.1, by omega⟩ hn
  have fin : ∀ {R : List (List AV)} {q : AV}, R = rpRows b (List.range (g.length + 1)) → q = parC b (parL g r p) → (∀ (j : Nat) x, j < p.length → p[j]? = some x → (findV g (r - 1) x).isSome = true) →
      K (B true) [.cells (.ints c :: .own 1 :: plcs b (g ++ [⟨r, a, p, d⟩])), .arr 1 R] [⟨none, [[I r, I a, .ints p, I d, I g.length, q]]⟩] := by
    intro R q hR hq hall
    rw [hR, hq]
    exact hyes (par_yes (v := ⟨r, a, p, d⟩) fun k x hx => hall k x (List.getElem?_eq_some_iff.1 hx).1 hx)
  repeat' (first|((conv=>whnf); (first|refine draw_plan (id := 1) [] [] (.take 0 (.take 1 (.take 2 (.take 3 (.take 4 (.take 5 (.take 6 (.run 7 (.take 8 .done))))))))) (by kernel_rfl) (by kernel_rfl) ?_|refine draw_plan (id := 11) [] [10] (.take 0 (.take 1 (.take 2 (.take 3 (.take 4 (.take 5 (.take 6 (.take 7 (.take 8 (.take 9 (.run 10 .done))))))))))) (by kernel_rfl) (by kernel_rfl) ?_|refine Exists.intro [] (And.intro keep_link ?_)|refine brK_dec (fun _=>?_) (fun _=>?_)|refine brK_ndec (fun _=>?_) (fun _=>?_)|refine brK_not (fun _=>?_) (fun _=>?_)|refine brK_in (fun _=>?_) (fun _=>?_)|refine And.intro (by first|exact rfl|exact ⟨_,rfl,rfl⟩|exact ⟨rfl,rfl,rfl⟩|exact of_decide_eq_true rfl|exact trivial|assumption|omega|(show (_ ≤ _ ∧ _ ≤ _); omega)|(simp; omega)|exact ⟨by first|omega|(simp; omega),_,rfl,rfl⟩) ?_|refine Quo.l (And.intro (by first|exact rfl|assumption|omega|(simp; omega)) ?_)|refine Quo.r (And.intro (by omega) ?_)|refine Both.mk ?_ ?_|refine Exists.intro _ (And.intro rfl ?_)|refine app_new rfl ?_|refine litM_in ?_ rfl rfl rfl rfl rfl rfl rfl rfl rfl rfl rfl rfl rfl rfl rfl rfl|refine forceL_is (l' := plcs b g) rfl ?_|refine forceL_is (l' := plcs b (g ++ [⟨r,a,p,d⟩])) rfl ?_|refine forceL_is hst ?_|refine forceL_is plcs_map ?_|refine leEK_is plcs_map ?_|refine Exists.intro b (Exists.intro g (And.intro plcs_map ?_))|refine fun _=>?_))|exact rfl)
  have hrl : (rpRows b (List.range g.length)).length = g.length := by simp
  refine loop_in (ι := Nat) (fun k => match k with
    | 0 => mkS 63 [(0, .ptr 0 0), (1, .agg [I r, I a, .ints p, I d]), (3, .ptr 2 0), (4, B false), (5, .ptr 3 0), (18, .ints p), (19, I p.length), (20, I 0)]
      [.cells (.ints c :: .own 1 :: plcs b g), .arr 1 (rpRows b (List.range g.length)), .cells [I r, I a, .ints p, I d], .cells [I r, I a, .ints p, I d, I g.length, .val (.slice none 0 0)]] Fs
    | k + 1 => mkS 63 [(0, .ptr 0 0), (1, .agg [I r, I a, .ints p, I d]), (3, .ptr 2 0), (4, B false), (5, .ptr 3 0), (18, .ints p), (19, I p.length), (20, I (k + 1 : Nat))]
      [.cells (.ints c :: .own 1 :: plcs b g), .arr 1 (rpRows b (List.range g.length)), .cells [I r, I a, .ints p, I d], .cells [I r, I a, .ints p, I d, I g.length, .own 4], .arr 1 (rpRows b (parL g r (p.take (k + 1))))] Fs)
    (fun k => k ≤ p.length ∧ ∀ (j : Nat) x, j < k → p[j]? = some x → (findV g (r - 1) x).isSome = true) (fun k => p.length - k) 0 [0, 1, 2, 3] ⟨Nat.zero_le _, fun j x hj => absurd hj (by omega)⟩ ?_ ?_
  · repeat' (first|((conv=>whnf); (first|refine Exists.intro [] (And.intro keep_link ?_)|refine brK_dec (fun _=>?_) (fun _=>?_)|refine brK_ndec (fun _=>?_) (fun _=>?_)|refine brK_not (fun _=>?_) (fun _=>?_)|refine brK_in (fun _=>?_) (fun _=>?_)|refine And.intro (by first|exact rfl|exact ⟨_,rfl,rfl⟩|exact ⟨rfl,rfl,rfl⟩|exact of_decide_eq_true rfl|exact trivial|assumption|omega|(show (_ ≤ _ ∧ _ ≤ _); omega)|(simp; omega)|exact ⟨by first|omega|(simp; omega),_,rfl,rfl⟩) ?_|refine Quo.l (And.intro (by first|exact rfl|assumption|omega|(simp; omega)) ?_)|refine Quo.r (And.intro (by omega) ?_)|refine Both.mk ?_ ?_|refine Exists.intro _ (And.intro rfl ?_)|refine app_new rfl ?_|refine litM_in ?_ rfl rfl rfl rfl rfl rfl rfl rfl rfl rfl rfl rfl rfl rfl rfl rfl|refine forceL_is (l' := plcs b g) rfl ?_|refine forceL_is (l' := plcs b (g ++ [⟨r,a,p,d⟩])) rfl ?_|refine forceL_is hst ?_|refine forceL_is plcs_map ?_|refine leEK_is plcs_map ?_|refine Exists.intro b (Exists.intro g (And.intro plcs_map ?_))|refine fun _=>?_))|exact rfl)
  intro k ⟨hk, hall⟩
  cases k with
  | zero =>
    repeat' (first|((conv=>whnf); (first|refine draw_plan (id := 1) [] [] (.take 0 (.take 1 (.take 2 (.take 3 (.take 4 (.take 5 (.take 6 (.run 7 (.take 8 .done))))))))) (by kernel_rfl) (by kernel_rfl) ?_|refine draw_plan (id := 11) [] [10] (.take 0 (.take 1 (.take 2 (.take 3 (.take 4 (.take 5 (.take 6 (.take 7 (.take 8 (.take 9 (.run 10 .done))))))))))) (by kernel_rfl) (by kernel_rfl) ?_|refine Exists.intro [] (And.intro keep_link ?_)|refine brK_dec (fun _=>?_) (fun _=>?_)|refine brK_ndec (fun _=>?_) (fun _=>?_)|refine brK_not (fun _=>?_) (fun _=>?_)|refine brK_in (fun _=>?_) (fun _=>?_)|refine And.intro (by first|exact rfl|exact (by first|exact Nat.le_trans (Nat.mul_le_mul_right _ (show _ ≤ 2000001 from by simp [chunks]; omega)) (by decide)|(simp [chunks]; omega)|(simp [plcs_len]; omega))|exact ⟨_,rfl,rfl⟩|exact ⟨rfl,rfl,rfl⟩|exact of_decide_eq_true rfl|exact trivial|assumption|omega|(show (_ ≤ _ ∧ _ ≤ _); omega)|(simp; omega)|exact ⟨by first|omega|(simp; omega),_,rfl,rfl⟩) ?_|refine Quo.l (And.intro (by first|exact rfl|exact (by first|exact Nat.le_trans (Nat.mul_le_mul_right _ (show _ ≤ 2000001 from by simp [chunks]; omega)) (by decide)|(simp [chunks]; omega)|(simp [plcs_len]; omega))|assumption|omega|(simp; omega)) ?_)|refine Quo.r (And.intro (by omega) ?_)|refine Both.mk ?_ ?_|refine Exists.intro _ (And.intro rfl ?_)|refine app_new rfl ?_|refine litM_in ?_ rfl rfl rfl rfl rfl rfl rfl rfl rfl rfl rfl rfl rfl rfl rfl rfl|refine forceL_is (l' := plcs b g) rfl ?_|refine forceL_is (l' := plcs b (g ++ [⟨r,a,p,d⟩])) rfl ?_|refine forceL_is hst ?_|refine forceL_is plcs_map ?_|refine leEK_is plcs_map ?_|refine Exists.intro b (Exists.intro g (And.intro plcs_map ?_))|refine fun _=>?_))|exact rfl)
    · rename_i h0 x hx hf
      have hx : p[0]? = some x := hx
      exact hno (par_no (v := ⟨r, a, p, d⟩) hx hf)
    · rename_i h0 x hx j hj
      have hx : p[0]? = some x := hx
      have e := parL_snoc (g := g) hx hj
      refine ⟨0 + 1, [0, 1, 2, 3, 5], ⟨by omega, fun i y hi hy => ?_⟩, by omega, ?_⟩
      · obtain rfl : i = 0 := by omega
        rw [hx] at hy
        cases hy
        rw [hj]; rfl
      repeat' (first|((conv=>whnf); (first|refine Exists.intro [] (And.intro keep_link ?_)|refine brK_dec (fun _=>?_) (fun _=>?_)|refine brK_ndec (fun _=>?_) (fun _=>?_)|refine brK_not (fun _=>?_) (fun _=>?_)|refine brK_in (fun _=>?_) (fun _=>?_)|refine And.intro (by first|exact rfl|exact (by rw [e]; simp [parL]; rfl)|exact ⟨_,rfl,rfl⟩|exact ⟨rfl,rfl,rfl⟩|exact of_decide_eq_true rfl|exact trivial|assumption|omega|(show (_ ≤ _ ∧ _ ≤ _); omega)|(simp; omega)|exact ⟨by first|omega|(simp; omega),_,rfl,rfl⟩) ?_|refine Quo.l (And.intro (by first|exact rfl|exact (by rw [e]; simp [parL]; rfl)|assumption|omega|(simp; omega)) ?_)|refine Quo.r (And.intro (by omega) ?_)|refine Both.mk ?_ ?_|refine Exists.intro _ (And.intro rfl ?_)|refine app_new rfl ?_|refine litM_in ?_ rfl rfl rfl rfl rfl rfl rfl rfl rfl rfl rfl rfl rfl rfl rfl rfl|refine forceL_is (l' := plcs b g) rfl ?_|refine forceL_is (l' := plcs b (g ++ [⟨r,a,p,d⟩])) rfl ?_|refine forceL_is hst ?_|refine forceL_is plcs_map ?_|refine leEK_is plcs_map ?_|refine Exists.intro b (Exists.intro g (And.intro plcs_map ?_))|refine fun _=>?_))|exact rfl)
    · rename_i h0
      have hp0 : p = [] := List.eq_nil_of_length_eq_zero (by omega)
      subst hp0
      exact fin (R := _) (q := .val (.slice none 0 0)) (rows_fin hFe rfl) rfl (fun j x hj => absurd hj (by simp))
  | succ k =>
    have hpl : (parL g r (p.take (k + 1))).length ≤ k + 1 := Nat.le_trans parL_len (by simp; omega)
    repeat' (first|((conv=>whnf); (first|refine draw_plan (id := 1) [] [] (.take 0 (.take 1 (.take 2 (.take 3 (.take 4 (.take 5 (.take 6 (.run 7 (.take 8 .done))))))))) (by kernel_rfl) (by kernel_rfl) ?_|refine draw_plan (id := 11) [] [10] (.take 0 (.take 1 (.take 2 (.take 3 (.take 4 (.take 5 (.take 6 (.take 7 (.take 8 (.take 9 (.run 10 .done))))))))))) (by kernel_rfl) (by kernel_rfl) ?_|refine Exists.intro [] (And.intro keep_link ?_)|refine brK_dec (fun _=>?_) (fun _=>?_)|refine brK_ndec (fun _=>?_) (fun _=>?_)|refine brK_not (fun _=>?_) (fun _=>?_)|refine brK_in (fun _=>?_) (fun _=>?_)|refine And.intro (by first|exact rfl|exact (by first|exact Nat.le_trans (Nat.mul_le_mul_right _ (show _ ≤ 2000001 from by simp [chunks]; omega)) (by decide)|(simp [chunks]; omega)|(simp [plcs_len]; omega))|exact ⟨_,rfl,rfl⟩|exact ⟨rfl,rfl,rfl⟩|exact of_decide_eq_true rfl|exact trivial|assumption|omega|(show (_ ≤ _ ∧ _ ≤ _); omega)|(simp; omega)|exact ⟨by first|omega|(simp; omega),_,rfl,rfl⟩) ?_|refine Quo.l (And.intro (by first|exact rfl|exact (by first|exact Nat.le_trans (Nat.mul_le_mul_right _ (show _ ≤ 2000001 from by simp [chunks]; omega)) (by decide)|(simp [chunks]; omega)|(simp [plcs_len]; omega))|assumption|omega|(simp; omega)) ?_)|refine Quo.r (And.intro (by omega) ?_)|refine Both.mk ?_ ?_|refine Exists.intro _ (And.intro rfl ?_)|refine app_new rfl ?_|refine litM_in ?_ rfl rfl rfl rfl rfl rfl rfl rfl rfl rfl rfl rfl rfl rfl rfl rfl|refine forceL_is (l' := plcs b g) rfl ?_|refine forceL_is (l' := plcs b (g ++ [⟨r,a,p,d⟩])) rfl ?_|refine forceL_is hst ?_|refine forceL_is plcs_map ?_|refine leEK_is plcs_map ?_|refine Exists.intro b (Exists.intro g (And.intro plcs_map ?_))|refine fun _=>?_))|exact rfl)
    · rename_i h0 x hx hf
      have hx : p[k + 1]? = some x := hx
      exact hno (par_no (v := ⟨r, a, p, d⟩) hx hf)
    · rename_i h0 x hx j hj
      have hx : p[k + 1]? = some x := hx
      have e := parL_snoc (g := g) hx hj
      refine ⟨k + 1 + 1, [0, 1, 2, 3, 4], ⟨by omega, fun i y hi hy => ?_⟩, by omega, ?_⟩
      · rcases Nat.lt_or_ge i (k + 1) with h1 | h1
        · exact hall i y h1 hy
        · obtain rfl : i = k + 1 := by omega
          rw [hx] at hy
          cases hy
          rw [hj]; rfl
      repeat' (first|((conv=>whnf); (first|refine Exists.intro [] (And.intro keep_link ?_)|refine brK_dec (fun _=>?_) (fun _=>?_)|refine brK_ndec (fun _=>?_) (fun _=>?_)|refine brK_not (fun _=>?_) (fun _=>?_)|refine brK_in (fun _=>?_) (fun _=>?_)|refine And.intro (by first|exact rfl|exact (by rw [e]; exact rows_snoc rfl)|exact ⟨_,rfl,rfl⟩|exact ⟨rfl,rfl,rfl⟩|exact of_decide_eq_true rfl|exact trivial|assumption|omega|(show (_ ≤ _ ∧ _ ≤ _); omega)|(simp; omega)|exact ⟨by first|omega|(simp; omega),_,rfl,rfl⟩) ?_|refine Quo.l (And.intro (by first|exact rfl|exact (by rw [e]; exact rows_snoc rfl)|assumption|omega|(simp; omega)) ?_)|refine Quo.r (And.intro (by omega) ?_)|refine Both.mk ?_ ?_|refine Exists.intro _ (And.intro rfl ?_)|refine app_new rfl ?_|refine litM_in ?_ rfl rfl rfl rfl rfl rfl rfl rfl rfl rfl rfl rfl rfl rfl rfl rfl|refine forceL_is (l' := plcs b g) rfl ?_|refine forceL_is (l' := plcs b (g ++ [⟨r,a,p,d⟩])) rfl ?_|refine forceL_is hst ?_|refine forceL_is plcs_map ?_|refine leEK_is plcs_map ?_|refine Exists.intro b (Exists.intro g (And.intro plcs_map ?_))|refine fun _=>?_))|exact rfl)
    · rename_i h0
      have hk2 : k + 1 = p.length := by omega
      have ht : p.take (k + 1) = p := by rw [hk2, List.take_length]
      have hl := parL_full (g := g) (r := r) (p := p) (fun j x hj hx => hall j x (by omega) hx) hk
      exact fin (rows_fin hFe rfl) (by rw [← parC_some (b := b) (by rw [hl]; omega), ht]) (fun j x hj hx => hall j x (by omega) hx)
end Go.Proofs.Ytalbgcpfekmfoaa
namespace Go.Proofs.Ytalbgcpfekmfoaa
open Go Go.Vc
set_option maxHeartbeats 4000000
set_option maxRecDepth 10000
def c_impl_graph_link_n : Con := ⟨3, 1, true, fun xs hs Fs K => match xs, hs with
  | [.ptr 0 0, .agg [.val (.int .i64 r), .val (.int .i64 a), .ints p, .val (.int .i64 d)]], [.cells (.ints c :: .val (.slice none 0 0) :: pl)] =>
    ∃ b, pl = plcs b [] ∧ Fs.length = b ∧ comV c = true ∧ vxV c ⟨r, a, p, d⟩ = true ∧ p.length < 2000000 ∧
      Both (parB [] ⟨r, a, p, d⟩ = false → K (B false) [.cells (.ints c :: .val (.slice none 0 0) :: plcs b [])] []) (parB [] ⟨r, a, p, d⟩ = true → K (B true) [.cells (.ints c :: .own 1 :: plcs b [⟨r, a, p, d⟩]), .arr 1 (rpRows b (List.range 1))] [nodeF b [] 0 r a p d])
  | _, _ => False⟩
theorem keep_nil {c : List Int} {b : Nat} {g : List VxD} {t : List AO} {x : Bool} : keepOf 1 (.cells (.ints c :: .val (.slice none 0 0) :: plcs b g) :: t) (B x) = [] := by
  have h : refsO (.cells (.ints c :: .val (.slice none 0 0) :: plcs b g)) = [] := by
    show List.flatMap refsC _ = _
    rw [List.flatMap_cons, List.flatMap_cons, refs_pure plcs_pure]
    rfl
  have e : (List.take 1 (AO.cells (.ints c :: .val (.slice none 0 0) :: plcs b g) :: t)).flatMap refsO = [] := by
    rw [List.take_succ_cons, List.take_zero, List.flatMap_cons, h]
    rfl
  unfold keepOf
  rw [e]
  rfl
theorem keep_first {c : List Int} {b j : Nat} {g : List VxD} {t : List AO} {x : Bool} {rows : List (List AV)} (hj : 1 ≤ j) (ht : listH (.cells (.ints c :: .own j :: plcs b g) :: t) j = .arr 1 rows) : keepOf 1 (.cells (.ints c :: .own j :: plcs b g) :: t) (B x) = [j] := by
  have h : refsO (.cells (.ints c :: .own j :: plcs b g)) = [j] := by
    show List.flatMap refsC _ = _
    rw [List.flatMap_cons, List.flatMap_cons, refs_pure plcs_pure]
    rfl
  have e : (List.take 1 (AO.cells (.ints c :: .own j :: plcs b g) :: t)).flatMap refsO = [j] := by
    rw [List.take_succ_cons, List.take_zero, List.flatMap_cons, h]
    rfl
  have e2 : dedup (refsR (B x) ++ [j]) = [j] := rfl
  have e3 : List.filter (fun k => decide (1 ≤ k)) [j] = [j] := by simp [hj]
  unfold keepOf
  rw [e, e2, e3]
  simp only [List.flatMap_cons, List.flatMap_nil, ht, refsO, List.append_nil]
  show List.filter _ (dedup [j]) = _
  exact e3
theorem k_impl_graph_link_n : Keeps' Try.prog 76 c_impl_graph_link_n := by
  refine keeps_of_vc mix TyT_ok (cok_cons k_impl_graph_at Try.func44 rfl rfl cok_nil) Try.func76 rfl rfl rfl ?_
  intro aargs hs Fs K h
  simp only [c_impl_graph_link_n] at h
  split at h
  case h_2 => exact h.elim
  rename_i r a p d c pl
  obtain ⟨b, rfl, hF, hc, hv, hp, hno, hyes⟩ := h
  obtain ⟨hc1, hc2, hcx⟩ := com_out hc
  have hvo := vx_out hv
  have hr : 0 ≤ r ∧ r ≤ 30 := hvo.1
  have ha : 0 ≤ a ∧ a < c.length := hvo.2.1
  have hgi : gin c [] := fun v hv => by simp at hv
  have hFe : (Fs ++ ([] : List Fam)).length = b + ([] : List VxD).length := by simpa using hF
  have hn : findV [] r a = none := rfl
  have hst : ∀ j, splice (AV.ints c :: .own j :: plcs b []) (2 + r.toNat * 7 + a.toNat * 1) [.rp (Fs ++ ([] : List Fam)).length 0 0] = .ints c :: .own j :: plcs b ([] ++ [⟨r, a, p, d⟩]) := fun j => plc_store (x := .ints c) (y := .own j) (d := d) (p := p) hFe hr ⟨ha.1, by omega⟩ hn
  repeat' (first|((conv=>whnf); (first|refine draw_plan (id := 1) [] [] (.take 0 (.take 1 (.take 2 (.take 3 (.take 4 (.take 5 (.take 6 (.run 7 (.take 8 .done))))))))) (by kernel_rfl) (by kernel_rfl) ?_|refine draw_plan (id := 11) [] [10] (.take 0 (.take 1 (.take 2 (.take 3 (.take 4 (.take 5 (.take 6 (.take 7 (.take 8 (.take 9 (.run 10 .done))))))))))) (by kernel_rfl) (by kernel_rfl) ?_|refine Exists.intro [] (And.intro keep_nil ?_)|refine Exists.intro [_] (And.intro (keep_first (by decide) rfl) ?_)|refine brK_dec (fun _=>?_) (fun _=>?_)|refine brK_ndec (fun _=>?_) (fun _=>?_)|refine brK_not (fun _=>?_) (fun _=>?_)|refine brK_in (fun _=>?_) (fun _=>?_)|refine And.intro (by first|exact rfl|exact ⟨_,rfl,rfl⟩|exact ⟨rfl,rfl,rfl⟩|exact of_decide_eq_true rfl|exact trivial|assumption|omega|(show (_ ≤ _ ∧ _ ≤ _); omega)|(simp; omega)|exact ⟨by first|omega|(simp; omega),_,rfl,rfl⟩) ?_|refine Quo.l (And.intro (by first|exact rfl|assumption|omega|(simp; omega)) ?_)|refine Quo.r (And.intro (by omega) ?_)|refine Both.mk ?_ ?_|refine Exists.intro _ (And.intro rfl ?_)|refine app_new rfl ?_|refine litM_in ?_ rfl rfl rfl rfl rfl rfl rfl rfl rfl rfl rfl rfl rfl rfl rfl rfl|refine forceL_is (l' := plcs b []) rfl ?_|refine forceL_is (l' := plcs b ([] ++ [⟨r,a,p,d⟩])) rfl ?_|refine forceL_is (hst _) ?_|refine forceL_is plcs_map ?_|refine leEK_is plcs_map ?_|refine Exists.intro b (Exists.intro [] (And.intro plcs_map ?_))|refine fun _=>?_))|exact rfl)
  refine loop_in (ι := Unit) (fun _ => mkS 63 [(0, .ptr 0 0), (1, .agg [I r, I a, .ints p, I d]), (3, .ptr 1 0), (4, B false), (5, .ptr 2 0), (18, .ints p), (19, I p.length), (20, I 0)]
      [.cells (.ints c :: .val (.slice none 0 0) :: plcs b []), .cells [I r, I a, .ints p, I d], .cells [I r, I a, .ints p, I d, I 0, .val (.slice none 0 0)]] Fs)
    (fun _ => True) (fun _ => 0) () [0, 1, 2] trivial ?_ ?_
  · repeat' (first|((conv=>whnf); (first|refine Exists.intro [] (And.intro keep_nil ?_)|refine Exists.intro [_] (And.intro (keep_first (by decide) rfl) ?_)|refine brK_dec (fun _=>?_) (fun _=>?_)|refine brK_ndec (fun _=>?_) (fun _=>?_)|refine brK_not (fun _=>?_) (fun _=>?_)|refine brK_in (fun _=>?_) (fun _=>?_)|refine And.intro (by first|exact rfl|exact ⟨_,rfl,rfl⟩|exact ⟨rfl,rfl,rfl⟩|exact of_decide_eq_true rfl|exact trivial|assumption|omega|(show (_ ≤ _ ∧ _ ≤ _); omega)|(simp; omega)|exact ⟨by first|omega|(simp; omega),_,rfl,rfl⟩) ?_|refine Quo.l (And.intro (by first|exact rfl|assumption|omega|(simp; omega)) ?_)|refine Quo.r (And.intro (by omega) ?_)|refine Both.mk ?_ ?_|refine Exists.intro _ (And.intro rfl ?_)|refine app_new rfl ?_|refine litM_in ?_ rfl rfl rfl rfl rfl rfl rfl rfl rfl rfl rfl rfl rfl rfl rfl rfl|refine forceL_is (l' := plcs b []) rfl ?_|refine forceL_is (l' := plcs b ([] ++ [⟨r,a,p,d⟩])) rfl ?_|refine forceL_is (hst _) ?_|refine forceL_is plcs_map ?_|refine leEK_is plcs_map ?_|refine Exists.intro b (Exists.intro [] (And.intro plcs_map ?_))|refine fun _=>?_))|exact rfl)
  intro _ _
  repeat' (first|((conv=>whnf); (first|refine draw_plan (id := 1) [] [] (.take 0 (.take 1 (.take 2 (.take 3 (.take 4 (.take 5 (.take 6 (.run 7 (.take 8 .done))))))))) (by kernel_rfl) (by kernel_rfl) ?_|refine draw_plan (id := 11) [] [10] (.take 0 (.take 1 (.take 2 (.take 3 (.take 4 (.take 5 (.take 6 (.take 7 (.take 8 (.take 9 (.run 10 .done))))))))))) (by kernel_rfl) (by kernel_rfl) ?_|refine Exists.intro [] (And.intro keep_nil ?_)|refine Exists.intro [_] (And.intro (keep_first (by decide) rfl) ?_)|refine brK_dec (fun _=>?_) (fun _=>?_)|refine brK_ndec (fun _=>?_) (fun _=>?_)|refine brK_not (fun _=>?_) (fun _=>?_)|refine brK_in (fun _=>?_) (fun _=>?_)|refine And.intro (by first|exact rfl|exact (by first|exact Nat.le_trans (Nat.mul_le_mul_right _ (show _ ≤ 2000001 from by simp [chunks])) (by decide)|(simp [chunks]; done)|(simp [plcs_len]; omega))|exact ⟨_,rfl,rfl⟩|exact ⟨rfl,rfl,rfl⟩|exact of_decide_eq_true rfl|exact trivial|assumption|omega|(show (_ ≤ _ ∧ _ ≤ _); omega)|(simp; omega)|exact ⟨by first|omega|(simp; omega),_,rfl,rfl⟩) ?_|refine Quo.l (And.intro (by first|exact rfl|exact (by first|exact Nat.le_trans (Nat.mul_le_mul_right _ (show _ ≤ 2000001 from by simp [chunks])) (by decide)|(simp [chunks]; done)|(simp [plcs_len]; omega))|assumption|omega|(simp; omega)) ?_)|refine Quo.r (And.intro (by omega) ?_)|refine Both.mk ?_ ?_|refine Exists.intro _ (And.intro rfl ?_)|refine app_new rfl ?_|refine litM_in ?_ rfl rfl rfl rfl rfl rfl rfl rfl rfl rfl rfl rfl rfl rfl rfl rfl|refine forceL_is (l' := plcs b []) rfl ?_|refine forceL_is (l' := plcs b ([] ++ [⟨r,a,p,d⟩])) rfl ?_|refine forceL_is (hst _) ?_|refine forceL_is plcs_map ?_|refine leEK_is plcs_map ?_|refine Exists.intro b (Exists.intro [] (And.intro plcs_map ?_))|refine fun _=>?_))|exact rfl)
  · rename_i h0 x hx hf
    have hx : p[0]? = some x := hx
    exact hno (par_no (v := ⟨r, a, p, d⟩) hx hf)
  · have hz := ‹findV [] (r - 1) _ = some _›
    cases hz
  · rename_i h0
    have hp0 : p = [] := List.eq_nil_of_length_eq_zero (by omega)
    subst hp0
    have fin : ∀ {R : List (List AV)}, R = rpRows b (List.range 1) → K (B true) [.cells (.ints c :: .own 1 :: plcs b ([] ++ [⟨r, a, [], d⟩])), .arr 1 R] [⟨none, [[I r, I a, .ints [], I d, I 0, .val (.slice none 0 0)]]⟩] := by
      intro R hR
      rw [hR]
      exact hyes rfl
    exact fin (rows_fin (m := 0) hFe rfl)
end Go.Proofs.Ytalbgcpfekmfoaa
namespace Go.Proofs.Ytalbgcpfekmfoaa
open Go Go.Vc
set_option maxHeartbeats 4000000
set_option maxRecDepth 10000
theorem refs_nil {c : List Int} {b : Nat} {g : List VxD} : refsO (.cells (.ints c :: .val (.slice none 0 0) :: plcs b g)) = [] := by
  show List.flatMap refsC _ = _
  rw [List.flatMap_cons, List.flatMap_cons, refs_pure plcs_pure]
  rfl
theorem refs_own {c : List Int} {b : Nat} {g : List VxD} : refsO (.cells (.ints c :: .own 1 :: plcs b g)) = [1] := by
  show List.flatMap refsC _ = _
  rw [List.flatMap_cons, List.flatMap_cons, refs_pure plcs_pure]
  rfl
theorem pass_nil {c p : List Int} {b : Nat} {g : List VxD} {t : List AO} {r a d : Int} : passOf 1 (listH (.cells (.ints c :: .val (.slice none 0 0) :: plcs b g) :: t)) [.ptr 0 0, .agg [I r, I a, .ints p, I d]] = [0] := by
  have e : dedup (List.flatMap refsA (List.filter isPtr [.ptr 0 0, .agg [I r, I a, .ints p, I d]])) = [0] := rfl
  show dedup (dedup _ ++ (dedup _).flatMap _) = _
  rw [e]
  show dedup ([0] ++ (refsO (.cells (.ints c :: .val (.slice none 0 0) :: plcs b g)) ++ [])) = _
  rw [refs_nil]
  rfl
theorem pass_own {c p : List Int} {b : Nat} {g : List VxD} {t : List AO} {r a d : Int} : passOf 1 (listH (.cells (.ints c :: .own 1 :: plcs b g) :: t)) [.ptr 0 0, .agg [I r, I a, .ints p, I d]] = [0, 1] := by
  have e : dedup (List.flatMap refsA (List.filter isPtr [.ptr 0 0, .agg [I r, I a, .ints p, I d]])) = [0] := rfl
  show dedup (dedup _ ++ (dedup _).flatMap _) = _
  rw [e]
  show dedup ([0] ++ (refsO (.cells (.ints c :: .own 1 :: plcs b g)) ++ [])) = _
  rw [refs_own]
  rfl
theorem keepg_nil {c : List Int} {b : Nat} {g : List VxD} {t : List AO} : keepOf 0 (.cells (.ints c :: .val (.slice none 0 0) :: plcs b g) :: t) (.tup [.ptr 0 0, B true]) = [0] := by
  have e : (dedup (refsR (.tup [.ptr 0 0, B true]) ++ (List.take 0 (AO.cells (.ints c :: .val (.slice none 0 0) :: plcs b g) :: t)).flatMap refsO)).filter (fun k => decide (0 ≤ k)) = [0] := rfl
  unfold keepOf
  rw [e]
  show List.filter _ (dedup ([0] ++ (refsO (.cells (.ints c :: .val (.slice none 0 0) :: plcs b g)) ++ []))) = _
  rw [refs_nil]
  rfl
theorem keepg_own {c : List Int} {b : Nat} {g : List VxD} {t : List AO} : keepOf 0 (.cells (.ints c :: .own 1 :: plcs b g) :: t) (.tup [.ptr 0 0, B true]) = [0, 1] := by
  have e : (dedup (refsR (.tup [.ptr 0 0, B true]) ++ (List.take 0 (AO.cells (.ints c :: .own 1 :: plcs b g) :: t)).flatMap refsO)).filter (fun k => decide (0 ≤ k)) = [0] := rfl
  unfold keepOf
  rw [e]
  show List.filter _ (dedup ([0] ++ (refsO (.cells (.ints c :: .own 1 :: plcs b g)) ++ []))) = _
  rw [refs_own]
  rfl
theorem appK_in : ∀ {l r : List Fam} {k : List Fam → Prop}, k (l ++ r) → appK l r k
  | [], _, _, h => h
  | _ :: t, _, _, h => appK_in (l := t) h
theorem appK_is {l r l' : List Fam} {k : List Fam → Prop} (e : l ++ r = l') (h : k l') : appK l r k := appK_in (by rw [e]; exact h)
/-- Vertex k is as it must be behind those ahead of it. -/
def lnk (c : List Int) (g : List VxD) (k : Nat) : Prop := ∀ v, g[k]? = some v → vxV c v = true ∧ parB (g.take k) v = true ∧ ∀ u, 0 < k → g[k - 1]? = some u → u.lt v
theorem find_pre : ∀ {g : List VxD} {n : Nat} {r a : Int} {i : Nat}, findV (g.take n) r a = some i → findV g r a = some i
  | [], n, r, a, i, h => by simp [findV] at h
  | v :: g, 0, r, a, i, h => by simp [findV] at h
  | v :: g, n + 1, r, a, i, h => by
    rw [List.take_succ_cons] at h
    unfold findV at h ⊢
    split at h
    · rename_i e; rw [if_pos e]; exact h
    · rename_i e
      rw [if_neg e]
      obtain ⟨j, hj, rfl⟩ := Option.map_eq_some_iff.1 h
      rw [find_pre hj]
      rfl
theorem lnk_sorted {c : List Int} {g : List VxD} {i : Nat} (h : ∀ k, k < i → lnk c g k) : sortedV (g.take i) := by
  refine sorted_of_next fun k u v hu hv => ?_
  rw [List.getElem?_take] at hu hv
  split at hv
  · rename_i hk
    rw [if_pos (by omega)] at hu
    exact (h (k + 1) hk v hv).2.2 u (by omega) (by simpa using hu)
  · cases hv
theorem vx_in {c : List Int} {v : VxD} (h : vxV c v = true) : inR v.r 0 30 = true ∧ inR v.a 0 ((c.length : Int) - 1) = true := by
  unfold vxV at h
  simp only [Bool.and_eq_true] at h
  exact ⟨h.1, h.2.1⟩
theorem lnk_gin {c : List Int} {g : List VxD} {i : Nat} (h : ∀ k, k < i → lnk c g k) : gin c (g.take i) := by
  intro v hv
  obtain ⟨k, hk⟩ := List.mem_iff_getElem?.1 hv
  rw [List.getElem?_take] at hk
  split at hk
  · exact vx_in (h k (by assumption) v hk).1
  · cases hk
theorem lnk_new {c : List Int} {g : List VxD} {i : Nat} {v : VxD} (h : ∀ k, k < i → lnk c g k) (hv : g[i]? = some v) (hl : ∀ u, 0 < i → g[i - 1]? = some u → u.lt v) : findV (g.take i) v.r v.a = none := by
  have hs : sortedV (g.take (i + 1)) := by
    refine sorted_of_next fun k u w hu hw => ?_
    rw [List.getElem?_take] at hu hw
    split at hw
    · rename_i hk
      rw [if_pos (by omega)] at hu
      rcases Nat.lt_or_ge (k + 1) i with h1 | h1
      · exact (h (k + 1) h1 w hw).2.2 u (by omega) (by simpa using hu)
      · obtain rfl : i = k + 1 := by omega
        rw [hv] at hw
        cases hw
        exact hl u (by omega) (by simpa using hu)
    · cases hw
  cases hf : findV (g.take i) v.r v.a with
  | none => rfl
  | some j =>
    obtain ⟨u, hu, e1, e2⟩ := find_out hf
    rw [List.getElem?_take] at hu
    split at hu
    · have := hs j i u v (by assumption) (by rw [List.getElem?_take, if_pos (by omega)]; exact hu) (by rw [List.getElem?_take, if_pos (by omega)]; exact hv)
      unfold VxD.lt at this
      omega
    · cases hu
theorem par_pre {g : List VxD} {n : Nat} {v : VxD} (h : parB (g.take n) v = true) : parB g v = true := by
  unfold parB at h ⊢
  rw [List.all_eq_true] at h ⊢
  intro x hx
  obtain ⟨j, hj⟩ := Option.isSome_iff_exists.1 (h x hx)
  rw [find_pre hj]
  rfl
theorem lnk_yes {c : List Int} {g : List VxD} (hc : comV c = true) (h : ∀ k, k < g.length → lnk c g k) : gV c g = true := by
  refine gV_yes hc fun i hi => ?_
  have hv : g[i]? = some g[i] := List.getElem?_eq_getElem hi
  obtain ⟨h1, h2, h3⟩ := h i hi _ hv
  rcases Nat.eq_zero_or_pos i with rfl | h0
  · rw [gc_first hv, h1, par_pre h2]; rfl
  · have hu : g[i - 1]? = some (g[i - 1]'(by omega)) := List.getElem?_eq_getElem (by omega)
    rw [gc_next h0 hv hu, h1, par_pre h2, ltB_iff.2 (h3 _ h0 hu)]
    rfl
theorem lnk_no {c : List Int} {g : List VxD} {i : Nat} {v : VxD} (hv : g[i]? = some v) (h : vxV c v = false ∨ parB (g.take i) v = false ∨ ∃ u, 0 < i ∧ g[i - 1]? = some u ∧ ltB u v = false) : gV c g = false := by
  cases e : gV c g with
  | false => rfl
  | true =>
    obtain ⟨h1, h2, h3⟩ := gV_cell e hv
    rcases h with h | h | ⟨u, h0, hu, h⟩
    · rw [h1] at h; cases h
    · unfold parB at h2 h
      rw [List.all_eq_true] at h2
      rw [List.all_eq_false] at h
      obtain ⟨x, hx, h⟩ := h
      obtain ⟨j, hj⟩ := Option.isSome_iff_exists.1 (h2 x hx)
      rw [(par_ahead (gV_sorted e) hv).2 hj] at h
      exact absurd rfl h
    · rw [ltB_iff.2 (h3 u h0 hu)] at h
      cases h
def nodeG (b : Nat) (g : List VxD) (i : Nat) : Fam := match g[i]? with
  | some v => nodeF b (g.take i) i v.r v.a v.p v.d
  | none => ⟨none, []⟩
def nodeFs (b : Nat) (g : List VxD) (k : Nat) : List Fam := (List.range k).map (nodeG b g)
theorem nodeFs_len {b : Nat} {g : List VxD} {k : Nat} : (nodeFs b g k).length = k := by simp [nodeFs]
theorem nodeFs_snoc {b : Nat} {g : List VxD} {k : Nat} {v : VxD} (hv : g[k]? = some v) : nodeFs b g k ++ [nodeF b (g.take k) k v.r v.a v.p v.d] = nodeFs b g (k + 1) := by
  unfold nodeFs
  rw [List.range_succ, List.map_append, List.map_singleton, nodeG, hv]
def c_impl_linkGraph0 : Con := ⟨2, 0, true, fun xs hs Fs K => match xs with
  | [.ints c, .sl 4 rows] => hs = [] ∧ ∃ g : List VxD, rows = g.map VxD.row ∧ c.length < 2000000 ∧ g.length < 2000000 ∧ (∀ v ∈ g, v.p.length < 2000000) ∧
      Both (gV c g = false → ∀ f, K (.tup [nilP, B false]) [] f) (gV c g = true → (g = [] → K (.tup [.ptr 0 0, B true]) [.cells (.ints c :: .val (.slice none 0 0) :: plcs Fs.length [])] []) ∧
        (g ≠ [] → K (.tup [.ptr 0 0, B true]) [.cells (.ints c :: .own 1 :: plcs Fs.length g), .arr 1 (rpRows Fs.length (List.range g.length))] (nodeFs Fs.length g g.length)))
  | _ => False⟩
theorem k_impl_linkGraph_n : Keeps' Try.prog 41 c_impl_linkGraph0 := by
  refine keeps_of_vc mix TyT_ok (cok_cons k_impl_CommitteeValid Try.func75 rfl rfl (cok_cons k_impl_VertexValid Try.func42 rfl rfl (cok_cons k_impl_precedes Try.func46 rfl rfl (cok_cons (keeps_alt k_impl_graph_link k_impl_graph_link_n (by decide) rfl) Try.func76 rfl rfl cok_nil)))) Try.func41 rfl rfl rfl ?_
  intro aargs hs Fs K h
  simp only [c_impl_linkGraph0] at h
  split at h
  case h_2 => exact h.elim
  rename_i c rows
  obtain ⟨rfl, g, rfl, hcl, hg, hp, hno, hyes⟩ := h
  have hlen : (g.map VxD.row).length = g.length := by simp
  repeat' (first|((conv=>whnf); (first|refine draw_plan (id := 7) [] [] (.take 0 (.take 1 (.run 2 (.take 3 (.take 4 (.take 5 (.take 6 (.take 7 (.take 8 (.take 9 (.take 10 (.take 11 (.take 12 (.take 13 (.run 14 (.take 15 (.take 16 (.take 17 (.take 18 (.take 19 (.take 20 (.run 21 (.take 22 (.take 23 .done)))))))))))))))))))))))) (by kernel_rfl) (by kernel_rfl) ?_|refine Exists.intro [0] (And.intro pass_nil ?_)|refine Exists.intro [0,1] (And.intro pass_own ?_)|refine Exists.intro [0] (And.intro keepg_nil ?_)|refine Exists.intro [0,1] (And.intro keepg_own ?_)|refine brK_dec (fun _=>?_) (fun _=>?_)|refine brK_ndec (fun _=>?_) (fun _=>?_)|refine brK_not (fun _=>?_) (fun _=>?_)|refine brK_in (fun _=>?_) (fun _=>?_)|refine And.intro (by first|exact rfl|exact ⟨_,rfl,rfl⟩|exact ⟨rfl,rfl,rfl⟩|exact of_decide_eq_true rfl|exact trivial|assumption|omega|(show (_ ≤ _ ∧ _ ≤ _); omega)|(simp; omega)|exact ⟨by first|omega|(simp; omega),_,rfl,rfl⟩) ?_|refine Quo.l (And.intro (by first|exact rfl|assumption|omega|(simp; omega)) ?_)|refine Quo.r (And.intro (by omega) ?_)|refine Both.mk ?_ ?_|refine Exists.intro _ (And.intro rfl ?_)|refine opt_use (by assumption) ?_|refine vrow_use (by assumption) ?_|refine vrow_in (fun _ _=>?_)|refine appK_in ?_|refine forceL_is plcs_map ?_|refine forceL_is (l' := plcs _ _) rfl ?_|refine leEK_is plcs_map ?_|refine leEK_is plcs_nil.symm ?_|refine fun _=>?_))|exact rfl)
  · rename_i hc
    exact hno (gV_com hc) _
  rename_i hc
  refine loop_in (ι := Nat) (fun k => match k with
    | 0 => ⟨mkE 0 48 [(0, .ints c), (1, .sl 4 (g.map VxD.row)), (4, nilP), (5, B false), (6, .ptr 0 0), (15, .sl 4 (g.map VxD.row)), (16, I (g.map VxD.row).length), (17, I 0)],
      [.cells (.ints c :: .val (.slice none 0 0) :: plcs Fs.length [])], Fs, []⟩
    | k + 1 => ⟨mkE 0 48 [(0, .ints c), (1, .sl 4 (g.map VxD.row)), (4, nilP), (5, B false), (6, .ptr 0 0), (15, .sl 4 (g.map VxD.row)), (16, I (g.map VxD.row).length), (17, I (k + 1 : Nat))],
      [.cells (.ints c :: .own 1 :: plcs Fs.length (g.take (k + 1))), .arr 1 (rpRows Fs.length (List.range (k + 1)))], Fs, nodeFs Fs.length g (k + 1)⟩)
    (fun k => k ≤ g.length ∧ ∀ j, j < k → lnk c g j) (fun k => g.length - k) 0 [0] ⟨Nat.zero_le _, fun j hj => absurd hj (by omega)⟩ ?_ ?_
  · repeat' (first|((conv=>whnf); (first|refine Exists.intro [0] (And.intro pass_nil ?_)|refine Exists.intro [0,1] (And.intro pass_own ?_)|refine Exists.intro [0] (And.intro keepg_nil ?_)|refine Exists.intro [0,1] (And.intro keepg_own ?_)|refine brK_dec (fun _=>?_) (fun _=>?_)|refine brK_ndec (fun _=>?_) (fun _=>?_)|refine brK_not (fun _=>?_) (fun _=>?_)|refine brK_in (fun _=>?_) (fun _=>?_)|refine And.intro (by first|exact rfl|exact ⟨_,rfl,rfl⟩|exact ⟨rfl,rfl,rfl⟩|exact of_decide_eq_true rfl|exact trivial|assumption|omega|(show (_ ≤ _ ∧ _ ≤ _); omega)|(simp; omega)|exact ⟨by first|omega|(simp; omega),_,rfl,rfl⟩) ?_|refine Quo.l (And.intro (by first|exact rfl|assumption|omega|(simp; omega)) ?_)|refine Quo.r (And.intro (by omega) ?_)|refine Both.mk ?_ ?_|refine Exists.intro _ (And.intro rfl ?_)|refine opt_use (by assumption) ?_|refine vrow_use (by assumption) ?_|refine vrow_in (fun _ _=>?_)|refine appK_in ?_|refine forceL_is plcs_map ?_|refine forceL_is (l' := plcs _ _) rfl ?_|refine leEK_is plcs_map ?_|refine leEK_is plcs_nil.symm ?_|refine fun _=>?_))|exact rfl)
  intro k ⟨hk, hall⟩
  cases k with
  | zero =>
    repeat' (first|((conv=>whnf); (first|refine draw_plan (id := 7) [0] [] (.take 0 (.take 1 (.run 2 (.take 3 (.take 4 (.take 5 (.take 6 (.take 7 (.take 8 (.take 9 (.take 10 (.take 11 (.take 12 (.take 13 (.run 14 (.take 15 (.take 16 (.take 17 (.take 18 (.take 19 (.take 20 (.run 21 (.take 22 (.take 23 .done)))))))))))))))))))))))) (by kernel_rfl) (by kernel_rfl) ?_|refine Exists.intro [0] (And.intro pass_nil ?_)|refine Exists.intro [0,1] (And.intro pass_own ?_)|refine Exists.intro [0] (And.intro keepg_nil ?_)|refine Exists.intro [0,1] (And.intro keepg_own ?_)|refine brK_dec (fun _=>?_) (fun _=>?_)|refine brK_ndec (fun _=>?_) (fun _=>?_)|refine brK_not (fun _=>?_) (fun _=>?_)|refine brK_in (fun _=>?_) (fun _=>?_)|refine And.intro (by first|exact rfl|exact (by first|exact hp _ (List.mem_of_getElem? (by assumption)))|exact ⟨_,rfl,rfl⟩|exact ⟨rfl,rfl,rfl⟩|exact of_decide_eq_true rfl|exact trivial|assumption|omega|(show (_ ≤ _ ∧ _ ≤ _); omega)|(simp; omega)|exact ⟨by first|omega|(simp; omega),_,rfl,rfl⟩) ?_|refine Quo.l (And.intro (by first|exact rfl|exact (by first|exact hp _ (List.mem_of_getElem? (by assumption)))|assumption|omega|(simp; omega)) ?_)|refine Quo.r (And.intro (by omega) ?_)|refine Both.mk ?_ ?_|refine Exists.intro _ (And.intro rfl ?_)|refine opt_use (by assumption) ?_|refine vrow_use (by assumption) ?_|refine vrow_in (fun _ _=>?_)|refine appK_in ?_|refine forceL_is plcs_map ?_|refine forceL_is (l' := plcs _ _) rfl ?_|refine leEK_is plcs_map ?_|refine leEK_is plcs_nil.symm ?_|refine fun _=>?_))|exact rfl)
    · rename_i h0 v hv e
      refine hno (lnk_no (i := 0) hv (.inl ?_)) _
      rw [hc, Bool.true_and] at e
      exact e
    · rename_i h0 v hv e
      have hv : g[0]? = some v := hv
      have hvx : vxV c v = true := by
        rw [hc, Bool.true_and] at e
        exact e
      have hpl := hp v (List.mem_of_getElem? hv)
      refine Or.inr ?_
      refine ⟨Fs.length, plcs_map, by simp, hc, hvx, hpl, Both.mk (fun q => ?_) (fun q => ?_)⟩
      · repeat' (first|((conv=>whnf); (first|refine Exists.intro [0] (And.intro pass_nil ?_)|refine Exists.intro [0,1] (And.intro pass_own ?_)|refine Exists.intro [0] (And.intro keepg_nil ?_)|refine Exists.intro [0,1] (And.intro keepg_own ?_)|refine brK_dec (fun _=>?_) (fun _=>?_)|refine brK_ndec (fun _=>?_) (fun _=>?_)|refine brK_not (fun _=>?_) (fun _=>?_)|refine brK_in (fun _=>?_) (fun _=>?_)|refine And.intro (by first|exact rfl|exact ⟨_,rfl,rfl⟩|exact ⟨rfl,rfl,rfl⟩|exact of_decide_eq_true rfl|exact trivial|assumption|omega|(show (_ ≤ _ ∧ _ ≤ _); omega)|(simp; omega)|exact ⟨by first|omega|(simp; omega),_,rfl,rfl⟩) ?_|refine Quo.l (And.intro (by first|exact rfl|assumption|omega|(simp; omega)) ?_)|refine Quo.r (And.intro (by omega) ?_)|refine Both.mk ?_ ?_|refine Exists.intro _ (And.intro rfl ?_)|refine opt_use (by assumption) ?_|refine vrow_use (by assumption) ?_|refine vrow_in (fun _ _=>?_)|refine appK_in ?_|refine forceL_is plcs_map ?_|refine forceL_is (l' := plcs _ _) rfl ?_|refine leEK_is plcs_map ?_|refine leEK_is plcs_nil.symm ?_|refine fun _=>?_))|exact rfl)
        exact hno (lnk_no (i := 0) hv (.inr (.inl q))) _
      · repeat' (first|((conv=>whnf); (first|refine Exists.intro [0] (And.intro pass_nil ?_)|refine Exists.intro [0,1] (And.intro pass_own ?_)|refine Exists.intro [0] (And.intro keepg_nil ?_)|refine Exists.intro [0,1] (And.intro keepg_own ?_)|refine brK_dec (fun _=>?_) (fun _=>?_)|refine brK_ndec (fun _=>?_) (fun _=>?_)|refine brK_not (fun _=>?_) (fun _=>?_)|refine brK_in (fun _=>?_) (fun _=>?_)|refine And.intro (by first|exact rfl|exact ⟨_,rfl,rfl⟩|exact ⟨rfl,rfl,rfl⟩|exact of_decide_eq_true rfl|exact trivial|assumption|omega|(show (_ ≤ _ ∧ _ ≤ _); omega)|(simp; omega)|exact ⟨by first|omega|(simp; omega),_,rfl,rfl⟩) ?_|refine Quo.l (And.intro (by first|exact rfl|assumption|omega|(simp; omega)) ?_)|refine Quo.r (And.intro (by omega) ?_)|refine Both.mk ?_ ?_|refine Exists.intro _ (And.intro rfl ?_)|refine opt_use (by assumption) ?_|refine vrow_use (by assumption) ?_|refine vrow_in (fun _ _=>?_)|refine appK_in ?_|refine forceL_is plcs_map ?_|refine forceL_is (l' := plcs _ _) rfl ?_|refine leEK_is plcs_map ?_|refine leEK_is plcs_nil.symm ?_|refine fun _=>?_))|exact rfl)
        refine ⟨0 + 1, [0, 2], ⟨by omega, fun j hj => ?_⟩, by omega, ?_⟩
        · obtain rfl : j = 0 := by omega
          intro u hu
          rw [hv] at hu
          cases hu
          exact ⟨hvx, q, fun u h => absurd h (by omega)⟩
        have e1 : g.take (0 + 1) = [v] := by rw [List.take_add_one, hv]; rfl
        have e2 : plcs Fs.length (g.take (0 + 1)) = plcs Fs.length [⟨v.r, v.a, v.p, v.d⟩] := by rw [e1]
        have e3 : nodeFs Fs.length g (0 + 1) = [nodeF Fs.length [] 0 v.r v.a v.p v.d] := by rw [← nodeFs_snoc hv]; rfl
        repeat' (first|((conv=>whnf); (first|refine Exists.intro [0] (And.intro pass_nil ?_)|refine Exists.intro [0,1] (And.intro pass_own ?_)|refine Exists.intro [0] (And.intro keepg_nil ?_)|refine Exists.intro [0,1] (And.intro keepg_own ?_)|refine brK_dec (fun _=>?_) (fun _=>?_)|refine brK_ndec (fun _=>?_) (fun _=>?_)|refine brK_not (fun _=>?_) (fun _=>?_)|refine brK_in (fun _=>?_) (fun _=>?_)|refine And.intro (by first|exact rfl|exact ⟨_,rfl,rfl⟩|exact ⟨rfl,rfl,rfl⟩|exact of_decide_eq_true rfl|exact trivial|assumption|omega|(show (_ ≤ _ ∧ _ ≤ _); omega)|(simp; omega)|exact ⟨by first|omega|(simp; omega),_,rfl,rfl⟩) ?_|refine Quo.l (And.intro (by first|exact rfl|assumption|omega|(simp; omega)) ?_)|refine Quo.r (And.intro (by omega) ?_)|refine Both.mk ?_ ?_|refine Exists.intro _ (And.intro rfl ?_)|refine leEK_is (plcs_map.trans e2.symm) ?_|refine appK_in ?_|refine forceL_is plcs_map ?_|refine forceL_is (l' := plcs _ _) rfl ?_|refine fun _=>?_))|exact rfl)
        exact e3
    · rename_i h0
      have hg0 : g = [] := List.eq_nil_of_length_eq_zero (by omega)
      subst hg0
      exact (hyes (lnk_yes hc fun k hk => absurd hk (by simp))).1 rfl
  | succ k =>
    repeat' (first|((conv=>whnf); (first|refine draw_plan (id := 7) [0,1] [] (.take 0 (.take 1 (.run 2 (.take 3 (.take 4 (.take 5 (.take 6 (.take 7 (.take 8 (.take 9 (.take 10 (.take 11 (.take 12 (.take 13 (.run 14 (.take 15 (.take 16 (.take 17 (.take 18 (.take 19 (.take 20 (.run 21 (.take 22 (.take 23 .done)))))))))))))))))))))))) (by kernel_rfl) (by kernel_rfl) ?_|refine Exists.intro [0] (And.intro pass_nil ?_)|refine Exists.intro [0,1] (And.intro pass_own ?_)|refine Exists.intro [0] (And.intro keepg_nil ?_)|refine Exists.intro [0,1] (And.intro keepg_own ?_)|refine brK_dec (fun _=>?_) (fun _=>?_)|refine brK_ndec (fun _=>?_) (fun _=>?_)|refine brK_not (fun _=>?_) (fun _=>?_)|refine brK_in (fun _=>?_) (fun _=>?_)|refine And.intro (by first|exact rfl|exact (by first|exact hp _ (List.mem_of_getElem? (by assumption)))|exact ⟨_,rfl,rfl⟩|exact ⟨rfl,rfl,rfl⟩|exact of_decide_eq_true rfl|exact trivial|assumption|omega|(show (_ ≤ _ ∧ _ ≤ _); omega)|(simp; omega)|exact ⟨by first|omega|(simp; omega),_,rfl,rfl⟩) ?_|refine Quo.l (And.intro (by first|exact rfl|exact (by first|exact hp _ (List.mem_of_getElem? (by assumption)))|assumption|omega|(simp; omega)) ?_)|refine Quo.r (And.intro (by omega) ?_)|refine Both.mk ?_ ?_|refine Exists.intro _ (And.intro rfl ?_)|refine opt_use (by assumption) ?_|refine vrow_use (by assumption) ?_|refine vrow_in (fun _ _=>?_)|refine appK_in ?_|refine forceL_is plcs_map ?_|refine forceL_is (l' := plcs _ _) rfl ?_|refine fun _=>?_))|exact rfl)
    · rename_i h0 v hv e
      refine hno (lnk_no (i := k + 1) hv (.inl ?_)) _
      rw [hc, Bool.true_and] at e
      exact e
    · rename_i h0 v hv e h1 u hu hlt
      have hu : g[k + 1 - 1]? = some u := by rw [show k + 1 - 1 = (((k + 1 : Nat) : Int) - 1).toNat by omega]; exact hu
      exact hno (lnk_no (i := k + 1) hv (.inr (.inr ⟨u, by omega, hu, hlt⟩))) _
    · rename_i h0 v hv e h1 u hu hlt
      have hv : g[k + 1]? = some v := hv
      have hu : g[k + 1 - 1]? = some u := by rw [show k + 1 - 1 = (((k + 1 : Nat) : Int) - 1).toNat by omega]; exact hu
      have hlt : u.lt v := ltB_iff.1 hlt
      have hvx : vxV c v = true := by
        rw [hc, Bool.true_and] at e
        exact e
      have hpl := hp v (List.mem_of_getElem? hv)
      have hl : ∀ w, 0 < k + 1 → g[k + 1 - 1]? = some w → w.lt v := fun w _ hw => by rw [hu] at hw; cases hw; exact hlt
      have htl : (g.take (k + 1)).length = k + 1 := by simp; omega
      refine Or.inl ⟨Fs.length, g.take (k + 1), plcs_map, by rw [htl], by simp [nodeFs_len]; omega, hc, lnk_gin hall, hvx, lnk_new hall hv hl, by omega, hpl, Both.mk (fun q => ?_) (fun q => ?_)⟩
      · repeat' (first|((conv=>whnf); (first|refine Exists.intro [0] (And.intro pass_nil ?_)|refine Exists.intro [0,1] (And.intro pass_own ?_)|refine Exists.intro [0] (And.intro keepg_nil ?_)|refine Exists.intro [0,1] (And.intro keepg_own ?_)|refine brK_dec (fun _=>?_) (fun _=>?_)|refine brK_ndec (fun _=>?_) (fun _=>?_)|refine brK_not (fun _=>?_) (fun _=>?_)|refine brK_in (fun _=>?_) (fun _=>?_)|refine And.intro (by first|exact rfl|exact ⟨_,rfl,rfl⟩|exact ⟨rfl,rfl,rfl⟩|exact of_decide_eq_true rfl|exact trivial|assumption|omega|(show (_ ≤ _ ∧ _ ≤ _); omega)|(simp; omega)|exact ⟨by first|omega|(simp; omega),_,rfl,rfl⟩) ?_|refine Quo.l (And.intro (by first|exact rfl|assumption|omega|(simp; omega)) ?_)|refine Quo.r (And.intro (by omega) ?_)|refine Both.mk ?_ ?_|refine Exists.intro _ (And.intro rfl ?_)|refine opt_use (by assumption) ?_|refine vrow_use (by assumption) ?_|refine vrow_in (fun _ _=>?_)|refine appK_in ?_|refine forceL_is plcs_map ?_|refine forceL_is (l' := plcs _ _) rfl ?_|refine fun _=>?_))|exact rfl)
        exact hno (lnk_no (i := k + 1) hv (.inr (.inl q))) _
      · repeat' (first|((conv=>whnf); (first|refine Exists.intro [0] (And.intro pass_nil ?_)|refine Exists.intro [0,1] (And.intro pass_own ?_)|refine Exists.intro [0] (And.intro keepg_nil ?_)|refine Exists.intro [0,1] (And.intro keepg_own ?_)|refine brK_dec (fun _=>?_) (fun _=>?_)|refine brK_ndec (fun _=>?_) (fun _=>?_)|refine brK_not (fun _=>?_) (fun _=>?_)|refine brK_in (fun _=>?_) (fun _=>?_)|refine And.intro (by first|exact rfl|exact ⟨_,rfl,rfl⟩|exact ⟨rfl,rfl,rfl⟩|exact of_decide_eq_true rfl|exact trivial|assumption|omega|(show (_ ≤ _ ∧ _ ≤ _); omega)|(simp; omega)|exact ⟨by first|omega|(simp; omega),_,rfl,rfl⟩) ?_|refine Quo.l (And.intro (by first|exact rfl|assumption|omega|(simp; omega)) ?_)|refine Quo.r (And.intro (by omega) ?_)|refine Both.mk ?_ ?_|refine Exists.intro _ (And.intro rfl ?_)|refine opt_use (by assumption) ?_|refine vrow_use (by assumption) ?_|refine vrow_in (fun _ _=>?_)|refine appK_in ?_|refine forceL_is plcs_map ?_|refine forceL_is (l' := plcs _ _) rfl ?_|refine fun _=>?_))|exact rfl)
        refine ⟨k + 1 + 1, [0, 1], ⟨by omega, fun j hj => ?_⟩, by omega, ?_⟩
        · rcases Nat.lt_or_ge j (k + 1) with h1 | h1
          · exact hall j h1
          · obtain rfl : j = k + 1 := by omega
            intro w hw
            rw [hv] at hw
            cases hw
            exact ⟨hvx, q, hl⟩
        have e1 : g.take (k + 1 + 1) = g.take (k + 1) ++ [v] := by rw [List.take_add_one, hv]; rfl
        have e2 : plcs Fs.length (g.take (k + 1 + 1)) = plcs Fs.length (g.take (k + 1) ++ [⟨v.r, v.a, v.p, v.d⟩]) := by rw [e1]
        have e3 : nodeFs Fs.length g (k + 1 + 1) = nodeFs Fs.length g (k + 1) ++ [] ++ [] ++ [nodeF Fs.length (g.take (k + 1)) (g.take (k + 1)).length v.r v.a v.p v.d] := by rw [← nodeFs_snoc hv, htl]; simp
        repeat' (first|((conv=>whnf); (first|refine Exists.intro [0] (And.intro pass_nil ?_)|refine Exists.intro [0,1] (And.intro pass_own ?_)|refine Exists.intro [0] (And.intro keepg_nil ?_)|refine Exists.intro [0,1] (And.intro keepg_own ?_)|refine brK_dec (fun _=>?_) (fun _=>?_)|refine brK_ndec (fun _=>?_) (fun _=>?_)|refine brK_not (fun _=>?_) (fun _=>?_)|refine brK_in (fun _=>?_) (fun _=>?_)|refine And.intro (by first|exact rfl|exact (by rw [htl])|exact ⟨_,rfl,rfl⟩|exact ⟨rfl,rfl,rfl⟩|exact of_decide_eq_true rfl|exact trivial|assumption|omega|(show (_ ≤ _ ∧ _ ≤ _); omega)|(simp; omega)|exact ⟨by first|omega|(simp; omega),_,rfl,rfl⟩) ?_|refine Quo.l (And.intro (by first|exact rfl|exact (by rw [htl])|assumption|omega|(simp; omega)) ?_)|refine Quo.r (And.intro (by omega) ?_)|refine Both.mk ?_ ?_|refine Exists.intro _ (And.intro rfl ?_)|refine leEK_is (plcs_map.trans e2.symm) ?_|refine appK_in ?_|refine forceL_is plcs_map ?_|refine forceL_is (l' := plcs _ _) rfl ?_|refine fun _=>?_))|exact rfl)
        exact e3
    · rename_i h0 v hv e h1
      omega
    · rename_i h0
      have hk2 : k + 1 = g.length := by omega
      have ht : g.take (k + 1) = g := by rw [hk2, List.take_length]
      have h2 := (hyes (lnk_yes hc fun j hj => hall j (by omega))).2 (by intro e; subst e; simp at hk2)
      rw [ht, hk2]
      exact h2
end Go.Proofs.Ytalbgcpfekmfoaa
namespace Go.Proofs.Ytalbgcpfekmfoaa
open Go Go.Vc
set_option maxHeartbeats 1000000
set_option maxRecDepth 10000
/-- All objects are given up: they are only read from now on. -/
theorem satw_give {E : Entry} {hs : List AO} {F : List Fam} {w : World} {ρ : Nat → Nat} {A : FA} (h : SatW E (listH hs) F w ρ A) (hn : E.n0 = 0) :
    SatW E (listH []) F w ρ A ∧ Vc.Keeps (ctxOf E (listH hs) w ρ A) (ctxOf E (listH []) w ρ A) ∧ ∀ k, alive (listH hs) k → okOf E (listH []) w ρ (ρ k) := by
  have hd : ∀ k, listH [] k = .dead := fun k => rfl
  have kp : Vc.Keeps (ctxOf E (listH hs) w ρ A) (ctxOf E (listH []) w ρ A) := by
    refine ⟨fun b hb => ?_, fun _ _ => rfl, fun _ hb => hb, fun _ _ => rfl, ⟨Nat.le_refl _, fun _ _ => rfl⟩⟩
    rcases hb with hb | ⟨h1, h2, _, h4⟩
    · exact .inl hb
    · exact .inr ⟨h1, h2, fun k hk => absurd (hd k) hk, h4⟩
  refine ⟨{ os := h.os, tape := h.tape, output := h.output, size := h.size, frame := h.frame, okB := h.okB, zB := h.zB, place := fun k hk => absurd (hd k) hk, inj := fun k _ hk => absurd (hd k) hk, stay := fun k cs hk => by omega,
            fix := fun _ k hk => by omega, grow := h.grow, pins := h.pins, obj := fun k => by rw [hd k]; trivial, fl := h.fl, nf := h.nf, A0 := h.A0, fam := fun f fam hf => (h.fam f fam hf).move kp (h.fam_lt hf) }, kp, fun k hk => ?_⟩
  have hp := h.place k hk
  refine .inr ⟨?_, hp.1, fun j hj => absurd (hd j) hj, h.alive_unfr hk⟩
  rcases hp.2 with h1 | h1
  · exact h1
  · omega
/-- Families that say no more. -/
def leFam (a b : Fam) : Prop := b.pin = none ∧ a.pin = none ∧ b.objs.length = a.objs.length ∧ ∀ (i : Nat) cs', b.objs[i]? = some cs' → ∃ cs, a.objs[i]? = some cs ∧ ∀ (j : Nat) x', cs'[j]? = some x' → ∃ x, cs[j]? = some x ∧ pureB x' = true ∧ ∀ c v, RepV c x v → RepV c x' v
theorem leFam_rep {c : Ctx} {f : Nat} {a b : Fam} (h : leFam a b) (hr : RepFam c f a) : RepFam c f b := by
  obtain ⟨h1, h2, h3, h4⟩ := h
  refine ⟨fun i cs' hi => ?_, fun i j hi hj => hr.2.1 i j (by omega) (by omega), fun g hg => (by rw [h1] at hg; cases hg), fun _ i cs' hi => ?_⟩
  · obtain ⟨cs, hcs, hx⟩ := h4 i cs' hi
    obtain ⟨hok, vf, hv⟩ := hr.1 i cs hcs
    refine ⟨hok, vf, fun j x' hj => ?_⟩
    obtain ⟨x, hx1, hx2, hx3⟩ := hx j x' hj
    obtain ⟨q1, _, q3, q4⟩ := hv j x hx1
    exact ⟨q1, hx2, q3, hx3 _ _ q4⟩
  · obtain ⟨cs, hcs, _⟩ := h4 i cs' hi
    exact hr.2.2.2 h2 i cs hcs
theorem satw_fams {E : Entry} {H : Nat → AO} {F F' : List Fam} {w : World} {ρ : Nat → Nat} {A : FA} (h : SatW E H F w ρ A) (hl : F'.length = F.length) (hf : ∀ (f : Nat) b, F'[f]? = some b → F[f]? = some b ∨ ∃ a, F[f]? = some a ∧ leFam a b) : SatW E H F' w ρ A :=
  { h with fl := hl.trans h.fl, fam := fun f b hb => (hf f b hb).elim (fun h1 => h.fam f b h1) fun ⟨a, h1, h2⟩ => leFam_rep h2 (h.fam f a h1) }
/-- The cells of vertex i's node; its parents are the families b + j. -/
def nodeC (b : Nat) (g : List VxD) (i : Nat) (v : VxD) : List AV := [I v.r, I v.a, .ints v.p, I v.d, I i, .sl 1 (rpRows b (parI g i))]
def nodeHs (b : Nat) (g : List VxD) : List Fam := (List.range g.length).map fun i => match g[i]? with
  | some v => ⟨none, [nodeC b g i v]⟩
  | none => ⟨none, []⟩
/-- The nodes of a graph are among the families. -/
def hasG (F : List Fam) (b : Nat) (g : List VxD) : Prop := ∀ (i : Nat) v, g[i]? = some v → famOwn F (b + i) 0 (nodeC b g i v)
theorem own_app {F nF : List Fam} {f i : Nat} {cs : List AV} (h : famOwn F f i cs) : famOwn (F ++ nF) f i cs := by
  obtain ⟨fam, h1, h2⟩ := h
  exact ⟨fam, by rw [List.getElem?_append_left (List.getElem?_eq_some_iff.1 h1).1]; exact h1, h2⟩
theorem hasG_app {F nF : List Fam} {b : Nat} {g : List VxD} (h : hasG F b g) : hasG (F ++ nF) b g := fun i v hv => own_app (h i v hv)
theorem at_own {F : List Fam} {f i : Nat} {cs : List AV} (h : famOwn F f i cs) : famAt F f i cs := let ⟨fam, h1, _, h3⟩ := h; ⟨fam, h1, h3⟩
theorem hasG_new {Fs : List Fam} {g : List VxD} : hasG (Fs ++ nodeHs Fs.length g) Fs.length g := by
  intro i v hv
  have hi := (List.getElem?_eq_some_iff.1 hv).1
  refine ⟨⟨none, [nodeC Fs.length g i v]⟩, ?_, rfl, rfl⟩
  rw [List.getElem?_append_right (by omega), Nat.add_sub_cancel_left]
  unfold nodeHs
  rw [List.getElem?_map, List.getElem?_range hi]
  simp [hv]
noncomputable abbrev gcells (c : List Int) (b : Nat) (g : List VxD) : List AV := .ints c :: .sl 1 (rpRows b (List.range g.length)) :: plcs b g
theorem parC_rep {c : Ctx} {b : Nat} {l : List Nat} {v : Value} (h : RepV c (parC b l) v) : RepV c (.sl 1 (rpRows b l)) v := by
  cases l with
  | nil => cases h; exact .sl0 1 _ _
  | cons j l => exact h
theorem node_le {b : Nat} {g : List VxD} (hs : sortedV g) {i : Nat} {v : VxD} (hv : g[i]? = some v) : leFam (nodeF b (g.take i) i v.r v.a v.p v.d) ⟨none, [nodeC b g i v]⟩ := by
  refine ⟨rfl, rfl, rfl, fun k cs' hk => ?_⟩
  cases k with
  | succ k => simp at hk
  | zero =>
    simp only [List.getElem?_cons_zero, Option.some.injEq] at hk
    subst hk
    have e : (v.p.filterMap fun x => findV (g.take i) (v.r - 1) x) = parI g i := by
      unfold parI
      rw [hv]
      congr 1
      funext x
      cases hf : findV g (v.r - 1) x with
      | some j => exact (par_ahead hs hv).2 hf
      | none =>
        cases hf2 : findV (g.take i) (v.r - 1) x with
        | none => rfl
        | some j => rw [(par_ahead hs hv).1 hf2] at hf; cases hf
    refine ⟨_, rfl, fun j x' hj => ?_⟩
    unfold nodeC at hj
    match j, hj with
    | 0, hj => cases hj; exact ⟨_, rfl, rfl, fun _ _ h => h⟩
    | 1, hj => cases hj; exact ⟨_, rfl, rfl, fun _ _ h => h⟩
    | 2, hj => cases hj; exact ⟨_, rfl, rfl, fun _ _ h => h⟩
    | 3, hj => cases hj; exact ⟨_, rfl, rfl, fun _ _ h => h⟩
    | 4, hj => cases hj; exact ⟨_, rfl, rfl, fun _ _ h => h⟩
    | 5, hj =>
      cases hj
      refine ⟨_, rfl, rfl, fun c v h => ?_⟩
      rw [e] at h
      exact parC_rep h
    | j + 6, hj => simp at hj
theorem nodes_le {Fs : List Fam} {b : Nat} {g : List VxD} (hs : sortedV g) (f : Nat) (q : Fam) (h : (Fs ++ nodeHs b g)[f]? = some q) : (Fs ++ nodeFs b g g.length)[f]? = some q ∨ ∃ a, (Fs ++ nodeFs b g g.length)[f]? = some a ∧ leFam a q := by
  by_cases hlt : f < Fs.length
  · rw [List.getElem?_append_left hlt] at h
    exact .inl (by rw [List.getElem?_append_left hlt]; exact h)
  · rw [List.getElem?_append_right (by omega)] at h
    unfold nodeHs at h
    rw [List.getElem?_map] at h
    obtain ⟨i, hi, rfl⟩ := Option.map_eq_some_iff.1 h
    have hlen : f - Fs.length < g.length := by have := (List.getElem?_eq_some_iff.1 hi).1; simpa using this
    rw [List.getElem?_range hlen] at hi
    cases hi
    have hv : g[f - Fs.length]? = some g[f - Fs.length] := List.getElem?_eq_getElem hlen
    refine .inr ⟨nodeG b g (f - Fs.length), ?_, ?_⟩
    · rw [List.getElem?_append_right (by omega)]
      unfold nodeFs
      rw [List.getElem?_map, List.getElem?_range hlen]
      rfl
    · unfold nodeG
      rw [hv]
      exact node_le hs hv
noncomputable def c_impl_linkGraph : Con := ⟨2, 0, true, fun xs hs Fs K => match xs with
  | [.ints c, .sl 4 rows] => hs = [] ∧ ∃ g : List VxD, rows = g.map VxD.row ∧ c.length < 2000000 ∧ g.length < 2000000 ∧ (∀ v ∈ g, v.p.length < 2000000) ∧
      Both (gV c g = false → ∀ f, K (.tup [nilP, B false]) [] f) (gV c g = true → ∀ b nF, hasG (Fs ++ nF) b g → K (.tup [.ro (gcells c b g), B true]) [] nF)
  | _ => False⟩
/-- The pair that is handed back, the graph only read. -/
theorem graph_ro {c c' : Ctx} {cl : List Int} {b : Nat} {g : List VxD} {X : AV} {v : Value} (hk : c.H 0 = .cells (.ints cl :: X :: plcs b g)) (ho : RepO c 0 (c.H 0)) (kp : Vc.Keeps c c') (hw : c'.w = c.w) (hok : c'.ok (c.ρ 0))
    (hX : ∀ v, RepV c X v → RepV c' (.sl 1 (rpRows b (List.range g.length))) v) (h : RepV c (.tup [.ptr 0 0, B true]) v) : RepV c' (.tup [.ro (gcells cl b g), B true]) v := by
  rw [hk] at ho
  obtain ⟨vf, hv⟩ := obj_cells ho 0
  cases h with
  | tup cs vs hl hn h =>
    obtain ⟨u, z, rfl⟩ : ∃ u z, vs = [u, z] := by
      rcases vs with _ | ⟨u, _ | ⟨z, _ | ⟨y, t⟩⟩⟩ <;> simp at hl
      exact ⟨u, z, rfl⟩
    have q0 := h 0 _ u rfl rfl
    have q1 := h 1 _ z rfl rfl
    refine .tup _ [u, z] rfl hn fun i a y ha hy => ?_
    match i, ha, hy with
    | 1, ha, hy => cases ha; cases hy; exact q1.pure_move kp rfl
    | 0, ha, hy =>
      cases ha
      cases hy
      cases q0 with
      | ptr k off cs hk' =>
        refine .ro _ _ _ vf (.inl hok) (fun j a hj => ?_) (fun j a hj => ?_)
        · match j, hj with
          | 0, hj => cases hj; obtain ⟨p1, p2, p3⟩ := hv 0 (.ints cl) rfl; exact ⟨by rw [hw]; exact p1, rfl, p2⟩
          | 1, hj => cases hj; obtain ⟨p1, p2, p3⟩ := hv 1 X rfl; exact ⟨by rw [hw]; exact p1, rfl, p2⟩
          | j + 2, hj =>
            have hj : (plcs b g)[j]? = some a := hj
            obtain ⟨p1, p2, p3⟩ := hv (j + 2) a hj
            exact ⟨by rw [hw]; exact p1, plcs_pure a (List.mem_of_getElem? hj), p2⟩
        · match j, hj with
          | 0, hj => cases hj; obtain ⟨p1, p2, p3⟩ := hv 0 (.ints cl) rfl; exact p3.pure_move kp rfl
          | 1, hj => cases hj; obtain ⟨p1, p2, p3⟩ := hv 1 X rfl; exact hX _ p3
          | j + 2, hj =>
            have hj : (plcs b g)[j]? = some a := hj
            obtain ⟨p1, p2, p3⟩ := hv (j + 2) a hj
            exact p3.pure_move kp (pureA_of_pureB (plcs_pure a (List.mem_of_getElem? hj)))
    | i + 2, ha, hy => simp at ha
theorem k_impl_linkGraph : Keeps' Try.prog 41 c_impl_linkGraph := by
  intro E args aargs hs Fs K hc hl hn0 hsat hrep hfx
  simp only [c_impl_linkGraph] at hc
  split at hc
  case h_2 => exact hc.elim
  rename_i c rows
  obtain ⟨rfl, g, rfl, hcl, hg, hp, hno, hyes⟩ := hc
  have hz : E.n0 = 0 := hn0
  refine (k_impl_linkGraph_n E args [.ints c, .sl 4 (g.map VxD.row)] [] Fs (fun r hs nF => (gV c g = false ∧ r = .tup [nilP, B false] ∧ hs = []) ∨ (gV c g = true ∧ r = .tup [.ptr 0 0, B true] ∧ nF = nodeFs Fs.length g g.length ∧
      ((g = [] ∧ hs = [.cells (.ints c :: .val (.slice none 0 0) :: plcs Fs.length g)]) ∨ hs = [.cells (.ints c :: .own 1 :: plcs Fs.length g), .arr 1 (rpRows Fs.length (List.range g.length))])))
    ⟨rfl, g, rfl, hcl, hg, hp, Both.mk (fun q f => .inl ⟨q, rfl, rfl⟩) (fun q => ⟨fun e => ?_, fun e => ?_⟩)⟩ hl hn0 hsat hrep hfx).mono ?_
  · subst e
    exact .inr ⟨q, rfl, rfl, .inl ⟨rfl, rfl⟩⟩
  · exact .inr ⟨q, rfl, rfl, .inr rfl⟩
  rintro e w' ⟨v, r, hs, nF, ρ, A, rfl, hK, hsat', hr, _, hlen, _⟩
  rcases hK with ⟨q, rfl, rfl⟩ | ⟨q, rfl, rfl, hcase⟩
  · exact ⟨v, _, [], nF, ρ, A, rfl, hno q nF, hsat', hr, by simp [hz], by simp, fun h => by cases h⟩
  · have hs := gV_sorted q
    obtain ⟨g1, kp, hok⟩ := satw_give hsat' hz
    have g2 := satw_fams g1 (F' := Fs ++ nodeHs Fs.length g) (by simp [nodeHs, nodeFs]) (nodes_le hs)
    have hr' : RepV (ctxOf E (listH []) w' ρ A) (.tup [.ro (gcells c Fs.length g), B true]) v := by
      rcases hcase with ⟨rfl, e⟩ | e
      · subst e
        exact graph_ro (X := .val (.slice none 0 0)) rfl (hsat'.obj 0) kp rfl (hok 0 (by simp [alive, listH])) (fun v h => by cases h; exact .sl0 1 _ _) hr
      · subst e
        refine graph_ro (X := .own 1) rfl (hsat'.obj 0) kp rfl (hok 0 (by simp [alive, listH])) (fun v h => ?_) hr
        exact roView_rep (k := 1) rfl h (hsat'.obj 1) kp (hok 1 (by simp [alive, listH])) rfl
    exact ⟨v, _, [], nodeHs Fs.length g, ρ, A, rfl, hyes q _ _ hasG_new, g2, hr', by simp [hz], by simp, fun h => by cases h⟩
end Go.Proofs.Ytalbgcpfekmfoaa
