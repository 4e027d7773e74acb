/-
The laws' own functions on vertices: sizes, copies, comparisons; slots.
No conditions.
-/
import Derived.Test.YtkabnbjlglippaaDoorLxE
import Derived.Test.YtkabnbjlglippaaDoorPlA
namespace Go.Proofs.YtkabnbjlglippaaDoor
open Go Go.Vc
set_option maxHeartbeats 2000000
set_option maxRecDepth 10000
def VxD.big (x : VxD) : Prop := x.p.length ≤ 9223372036854775807
def VxD.mid (x : VxD) : Prop := x.p.length ≤ 1048576
theorem vxs_at {g : List VxD} {i : Nat} {e : List AV} (h : (g.map VxD.row)[i]? = some e) : ∃ x, g[i]? = some x ∧ e = x.row := by
  rw [List.getElem?_map] at h
  obtain ⟨x, hx, rfl⟩ := Option.map_eq_some_iff.1 h
  exact ⟨x, hx, rfl⟩
theorem vx_take_one {g : List VxD} {i : Nat} {x : VxD} {p : VxD → Prop} (h : ∀ y ∈ g.take i, p y) (hx : g[i]? = some x) (hp : p x) : ∀ y ∈ g.take (i + 1), p y := by
  intro y hy
  rw [List.take_add_one, hx] at hy
  rcases List.mem_append.1 hy with hy | hy
  · exact h y hy
  · simp at hy
    rw [hy]; exact hp
def c_laws_szVertex : Con := ⟨0, 0, false, fun xs hs _ K => match xs with
  | [.agg [.val (.int .i64 _), .val (.int .i64 _), .ints p, .val (.int .i64 _)], .val (.int .i64 n)] => hs = [] ∧ p.length ≤ 9223372036854775807 ∧ 0 ≤ n ∧ n ≤ 1048576 ∧ K (I (szI p n)) [] []
  | _ => False⟩
theorem k_laws_szVertex : Keeps' Tryd.prog 12 c_laws_szVertex := by
  refine keeps_of_vc mix TyT_ok (cok_cons k_laws_szIntS Tryd.func22 rfl rfl cok_nil) Tryd.func12 rfl rfl rfl ?_
  intro aargs hs Fs K h
  simp only [c_laws_szVertex] at h
  split at h
  case h_2 => exact h.elim
  rename_i r a p d n
  obtain ⟨rfl, hp, h0, h1, h⟩ := h
  have no : ∀ {b : Int}, szI p n = b → K (I b) [] [] := fun e => by rw [← e]; exact h
  repeat' (first|((conv=>whnf); (first|refine brK_dec (fun _=>?_) (fun _=>?_)|refine brK_ndec (fun _=>?_) (fun _=>?_)|refine brK_not (fun _=>?_) (fun _=>?_)|refine brK_in (fun _=>?_) (fun _=>?_)|refine And.intro (by first|exact rfl|exact ⟨_,rfl,rfl⟩|exact ⟨rfl,rfl,rfl⟩|exact of_decide_eq_true rfl|exact trivial|assumption|omega|(show (_ ≤ _ ∧ _ ≤ _); omega)|(simp; omega)|exact ⟨by first|omega|(simp; omega),_,rfl,rfl⟩) ?_|refine Quo.l (And.intro (by first|exact rfl|assumption|omega|(simp; omega)) ?_)|refine Quo.r (And.intro (by omega) ?_)|refine Both.mk ?_ ?_|refine Exists.intro _ (And.intro rfl ?_)|refine fun _=>?_))|exact rfl)
  · rename_i h2
    exact no (szI_neg h2)
  · exact h
def c_laws_szVertexS : Con := ⟨0, 0, false, fun xs hs _ K => match xs with
  | [.sl 4 rows, .val (.int .i64 n)] => hs = [] ∧ ∃ g : List VxD, rows = g.map VxD.row ∧ (∀ x ∈ g, x.big) ∧ g.length ≤ 9223372036854775807 ∧ 0 ≤ n ∧ n ≤ 1048576 ∧
    ∀ v, v ≤ n → (0 ≤ v → g.length ≤ 1048576 ∧ ∀ x ∈ g, x.mid) → K (I v) [] []
  | _ => False⟩
theorem k_laws_szVertexS : Keeps' Tryd.prog 4 c_laws_szVertexS := by
  refine keeps_of_vc mix TyT_ok (cok_cons k_laws_szVertex Tryd.func12 rfl rfl cok_nil) Tryd.func4 rfl rfl rfl ?_
  intro aargs hs Fs K h
  simp only [c_laws_szVertexS] at h
  split at h
  case h_2 => exact h.elim
  rename_i rows n
  obtain ⟨rfl, g, rfl, hbig, hl, h0, h1, h⟩ := h
  have hlen : (g.map VxD.row).length = g.length := by simp
  repeat' (first|((conv=>whnf); (first|refine brK_dec (fun _=>?_) (fun _=>?_)|refine brK_ndec (fun _=>?_) (fun _=>?_)|refine brK_not (fun _=>?_) (fun _=>?_)|refine brK_in (fun _=>?_) (fun _=>?_)|refine And.intro (by first|exact rfl|exact ⟨_,rfl,rfl⟩|exact ⟨rfl,rfl,rfl⟩|exact of_decide_eq_true rfl|exact trivial|assumption|omega|(show (_ ≤ _ ∧ _ ≤ _); omega)|(simp; omega)|exact ⟨by first|omega|(simp; omega),_,rfl,rfl⟩) ?_|refine Quo.l (And.intro (by first|exact rfl|assumption|omega|(simp; omega)) ?_)|refine Quo.r (And.intro (by omega) ?_)|refine Both.mk ?_ ?_|refine Exists.intro _ (And.intro rfl ?_)|refine fun _=>?_))|exact rfl)
  · exact h _ (by omega) (by omega)
  rename_i hn
  refine loop_in (ι := Nat × Int) (fun t => mkS 27 [(0, .sl 4 (g.map VxD.row)), (1, I t.2), (4, I 0), (5, I t.1)] [] Fs) (fun t => t.1 ≤ g.length ∧ 0 ≤ t.2 ∧ t.2 ≤ n ∧ ∀ x ∈ g.take t.1, x.mid) (fun t => g.length - t.1) (0, n - (g.map VxD.row).length) [] ⟨Nat.zero_le _, by dsimp only; omega, by dsimp only; omega, by simp⟩ ?_ ?_
  · repeat' (first|((conv=>whnf); (first|refine brK_dec (fun _=>?_) (fun _=>?_)|refine brK_ndec (fun _=>?_) (fun _=>?_)|refine brK_not (fun _=>?_) (fun _=>?_)|refine brK_in (fun _=>?_) (fun _=>?_)|refine And.intro (by first|exact rfl|exact ⟨_,rfl,rfl⟩|exact ⟨rfl,rfl,rfl⟩|exact of_decide_eq_true rfl|exact trivial|assumption|omega|(show (_ ≤ _ ∧ _ ≤ _); omega)|(simp; omega)|exact ⟨by first|omega|(simp; omega),_,rfl,rfl⟩) ?_|refine Quo.l (And.intro (by first|exact rfl|assumption|omega|(simp; omega)) ?_)|refine Quo.r (And.intro (by omega) ?_)|refine Both.mk ?_ ?_|refine Exists.intro _ (And.intro rfl ?_)|refine fun _=>?_))|exact rfl)
  rintro ⟨i, q⟩ ⟨hi, hq0, hq1, hall⟩
  dsimp only at hi hq0 hq1 hall ⊢
  repeat' (first|((conv=>whnf); (first|refine brK_dec (fun _=>?_) (fun _=>?_)|refine brK_ndec (fun _=>?_) (fun _=>?_)|refine brK_not (fun _=>?_) (fun _=>?_)|refine brK_in (fun _=>?_) (fun _=>?_)|refine And.intro (by first|exact rfl|exact ⟨_,rfl,rfl⟩|exact ⟨rfl,rfl,rfl⟩|exact of_decide_eq_true rfl|exact trivial|assumption|omega|(show (_ ≤ _ ∧ _ ≤ _); omega)|(simp; omega)|exact ⟨by first|omega|(simp; omega),_,rfl,rfl⟩) ?_|refine Quo.l (And.intro (by first|exact rfl|assumption|omega|(simp; omega)) ?_)|refine Quo.r (And.intro (by omega) ?_)|refine Both.mk ?_ ?_|refine Exists.intro _ (And.intro rfl ?_)|refine fun _=>?_))|exact rfl)
  · rename_i hil e he
    obtain ⟨x, hx, rfl⟩ := vxs_at he
    have hx : g[i]? = some x := hx
    have hb : x.p.length ≤ 9223372036854775807 := hbig x (List.mem_of_getElem? hx)
    repeat' (first|((conv=>whnf); (first|refine brK_dec (fun _=>?_) (fun _=>?_)|refine brK_ndec (fun _=>?_) (fun _=>?_)|refine brK_not (fun _=>?_) (fun _=>?_)|refine brK_in (fun _=>?_) (fun _=>?_)|refine And.intro (by first|exact rfl|exact ⟨_,rfl,rfl⟩|exact ⟨rfl,rfl,rfl⟩|exact of_decide_eq_true rfl|exact trivial|assumption|omega|(show (_ ≤ _ ∧ _ ≤ _); omega)|(simp; omega)|exact ⟨by first|omega|(simp; omega),_,rfl,rfl⟩) ?_|refine Quo.l (And.intro (by first|exact rfl|assumption|omega|(simp; omega)) ?_)|refine Quo.r (And.intro (by omega) ?_)|refine Both.mk ?_ ?_|refine Exists.intro _ (And.intro rfl ?_)|refine fun _=>?_))|exact rfl)
    · exact h _ (by omega) (by omega)
    · rename_i hz
      have hle := szI_le (l := x.p) (n := q) (by omega)
      refine ⟨(i + 1, szI x.p q), [], ⟨by dsimp only; omega, by dsimp only; omega, by dsimp only; omega, vx_take_one hall hx (by show _ ≤ _; omega)⟩, by dsimp only; omega, ?_⟩
      repeat' (first|((conv=>whnf); (first|refine brK_dec (fun _=>?_) (fun _=>?_)|refine brK_ndec (fun _=>?_) (fun _=>?_)|refine brK_not (fun _=>?_) (fun _=>?_)|refine brK_in (fun _=>?_) (fun _=>?_)|refine And.intro (by first|exact rfl|exact ⟨_,rfl,rfl⟩|exact ⟨rfl,rfl,rfl⟩|exact of_decide_eq_true rfl|exact trivial|assumption|omega|(show (_ ≤ _ ∧ _ ≤ _); omega)|(simp; omega)|exact ⟨by first|omega|(simp; omega),_,rfl,rfl⟩) ?_|refine Quo.l (And.intro (by first|exact rfl|assumption|omega|(simp; omega)) ?_)|refine Quo.r (And.intro (by omega) ?_)|refine Both.mk ?_ ?_|refine Exists.intro _ (And.intro rfl ?_)|refine fun _=>?_))|exact rfl)
  · rename_i hil
    rw [List.take_of_length_le (by omega)] at hall
    exact h _ hq1 (fun _ => ⟨by omega, hall⟩)
def c_laws_toVertex : Con := ⟨1, 0, false, fun xs hs _ K => match xs with
  | [.agg [.val (.int .i64 r), .val (.int .i64 a), .ints p, .val (.int .i64 d)]] => hs = [] ∧ p.length ≤ 1048576 ∧ K (.agg [I r, I a, .own 0, I d]) [.iarr p] []
  | _ => False⟩
theorem k_laws_toVertex : Keeps' Tryd.prog 16 c_laws_toVertex := by
  refine keeps_of_vc mix TyT_ok (cok_cons k_laws_toIntS Tryd.func6 rfl rfl cok_nil) Tryd.func16 rfl rfl rfl ?_
  intro aargs hs Fs K h
  simp only [c_laws_toVertex] at h
  split at h
  case h_2 => exact h.elim
  rename_i r a p d
  obtain ⟨rfl, hp, h⟩ := h
  repeat' (first|((conv=>whnf); (first|refine brK_dec (fun _=>?_) (fun _=>?_)|refine brK_ndec (fun _=>?_) (fun _=>?_)|refine brK_not (fun _=>?_) (fun _=>?_)|refine brK_in (fun _=>?_) (fun _=>?_)|refine And.intro (by first|exact rfl|exact ⟨_,rfl,rfl⟩|exact ⟨rfl,rfl,rfl⟩|exact of_decide_eq_true rfl|exact trivial|assumption|omega|(show (_ ≤ _ ∧ _ ≤ _); omega)|(simp; omega)|exact ⟨by first|omega|(simp; omega),_,rfl,rfl⟩) ?_|refine Quo.l (And.intro (by first|exact rfl|assumption|omega|(simp; omega)) ?_)|refine Quo.r (And.intro (by omega) ?_)|refine Both.mk ?_ ?_|refine Exists.intro _ (And.intro rfl ?_)|refine fun _=>?_))|exact rfl)
  exact h
def vzrow : List AV := [I 0, I 0, .val (.slice none 0 0), I 0]
def vxTo (g : List VxD) (i : Nat) : List (List AV) := (g.take i).map VxD.row ++ List.replicate (g.length - i) vzrow
theorem vxTo_at {g : List VxD} {i : Nat} {e : List AV} (hi : i < g.length) (h : (vxTo g i)[i]? = some e) : e = vzrow := by
  unfold vxTo at h
  have e1 : ((g.take i).map VxD.row).length = i := by simp; omega
  rw [List.getElem?_append_right (by omega), e1, Nat.sub_self, List.getElem?_replicate] at h
  split at h
  · exact (Option.some.inj h).symm
  · cases h
theorem vxTo_set {g : List VxD} {i : Nat} {x : VxD} (hx : g[i]? = some x) : (vxTo g i).set i x.row = vxTo g (i + 1) := by
  obtain ⟨hi, _⟩ := List.getElem?_eq_some_iff.1 hx
  have e : g.length - i = (g.length - (i + 1)) + 1 := by omega
  have e1 : ((g.take i).map VxD.row).length = i := by simp; omega
  unfold vxTo
  rw [List.set_append, if_neg (by omega), List.take_add_one, hx, e, List.replicate_succ, e1]
  simp
theorem vxTo_len {g : List VxD} {i : Nat} (hi : i ≤ g.length) : (vxTo g i).length = g.length := by
  unfold vxTo
  simp
  omega
theorem vxTo_all (g : List VxD) : vxTo g g.length = g.map VxD.row := by
  simp [vxTo]
theorem vxTo_zero (g : List VxD) (n : Nat) (h : n = g.length) : vxTo g 0 = List.replicate n vzrow := by
  simp [vxTo, h]
def c_laws_toVertexS : Con := ⟨1, 0, true, fun xs hs _ K => match xs with
  | [.sl 4 rows] => hs = [] ∧ ∃ g : List VxD, rows = g.map VxD.row ∧ (∀ x ∈ g, x.mid) ∧ g.length ≤ 1048576 ∧ K (.own 0) [.arr 4 (g.map VxD.row)] []
  | _ => False⟩
theorem k_laws_toVertexS : Keeps' Tryd.prog 7 c_laws_toVertexS := by
  refine keeps_of_vc mix TyT_ok (cok_cons k_laws_toVertex Tryd.func16 rfl rfl cok_nil) Tryd.func7 rfl rfl rfl ?_
  intro aargs hs Fs K h
  simp only [c_laws_toVertexS] at h
  split at h
  case h_2 => exact h.elim
  rename_i rows
  obtain ⟨rfl, g, rfl, hmid, hl, h⟩ := h
  have hlen : (g.map VxD.row).length = g.length := by simp
  repeat' (first|((conv=>whnf); (first|refine brK_dec (fun _=>?_) (fun _=>?_)|refine brK_ndec (fun _=>?_) (fun _=>?_)|refine brK_not (fun _=>?_) (fun _=>?_)|refine brK_in (fun _=>?_) (fun _=>?_)|refine And.intro (by first|exact rfl|exact ⟨_,rfl,rfl⟩|exact ⟨rfl,rfl,rfl⟩|exact of_decide_eq_true rfl|exact trivial|assumption|omega|(show (_ ≤ _ ∧ _ ≤ _); omega)|(simp; omega)|exact ⟨by first|omega|(simp; omega),_,rfl,rfl⟩) ?_|refine Quo.l (And.intro (by first|exact rfl|assumption|omega|(simp; omega)) ?_)|refine Quo.r (And.intro (by omega) ?_)|refine Both.mk ?_ ?_|refine Exists.intro _ (And.intro rfl ?_)|refine fun _=>?_))|exact rfl)
  refine loop_in (ι := Nat) (fun i => mkS 23 [(0, .sl 4 (g.map VxD.row)), (2, .val (.slice none 0 0)), (3, .own 0), (4, I i)] [.arr 4 (vxTo g i)] Fs) (fun i => i ≤ g.length) (fun i => g.length - i) 0 [0] (Nat.zero_le _) ?_ ?_
  · repeat' (first|((conv=>whnf); (first|refine brK_dec (fun _=>?_) (fun _=>?_)|refine brK_ndec (fun _=>?_) (fun _=>?_)|refine brK_not (fun _=>?_) (fun _=>?_)|refine brK_in (fun _=>?_) (fun _=>?_)|refine And.intro (by first|exact rfl|exact (vxTo_zero g _ (by simp))|exact ⟨_,rfl,rfl⟩|exact ⟨rfl,rfl,rfl⟩|exact of_decide_eq_true rfl|exact trivial|assumption|omega|(show (_ ≤ _ ∧ _ ≤ _); omega)|(simp; omega)|exact ⟨by first|omega|(simp; omega),_,rfl,rfl⟩) ?_|refine Quo.l (And.intro (by first|exact rfl|exact (vxTo_zero g _ (by simp))|assumption|omega|(simp; omega)) ?_)|refine Quo.r (And.intro (by omega) ?_)|refine Both.mk ?_ ?_|refine Exists.intro _ (And.intro rfl ?_)|refine fun _=>?_))|exact rfl)
  intro i hi
  have hrl := vxTo_len hi
  repeat' (first|((conv=>whnf); (first|refine brK_dec (fun _=>?_) (fun _=>?_)|refine brK_ndec (fun _=>?_) (fun _=>?_)|refine brK_not (fun _=>?_) (fun _=>?_)|refine brK_in (fun _=>?_) (fun _=>?_)|refine And.intro (by first|exact rfl|exact ⟨_,rfl,rfl⟩|exact ⟨rfl,rfl,rfl⟩|exact of_decide_eq_true rfl|exact trivial|assumption|omega|(show (_ ≤ _ ∧ _ ≤ _); omega)|(simp; omega)|exact ⟨by first|omega|(simp; omega),_,rfl,rfl⟩) ?_|refine Quo.l (And.intro (by first|exact rfl|assumption|omega|(simp; omega)) ?_)|refine Quo.r (And.intro (by omega) ?_)|refine Both.mk ?_ ?_|refine Exists.intro _ (And.intro rfl ?_)|refine fun _=>?_))|exact rfl)
  · rename_i hil e he
    obtain ⟨x, hx, rfl⟩ := vxs_at he
    have hx : g[i]? = some x := hx
    have hb : x.p.length ≤ 1048576 := hmid x (List.mem_of_getElem? hx)
    repeat' (first|((conv=>whnf); (first|refine brK_dec (fun _=>?_) (fun _=>?_)|refine brK_ndec (fun _=>?_) (fun _=>?_)|refine brK_not (fun _=>?_) (fun _=>?_)|refine brK_in (fun _=>?_) (fun _=>?_)|refine And.intro (by first|exact rfl|exact ⟨_,rfl,rfl⟩|exact ⟨rfl,rfl,rfl⟩|exact of_decide_eq_true rfl|exact trivial|assumption|omega|(show (_ ≤ _ ∧ _ ≤ _); omega)|(simp; omega)|exact ⟨by first|omega|(simp; omega),_,rfl,rfl⟩) ?_|refine Quo.l (And.intro (by first|exact rfl|assumption|omega|(simp; omega)) ?_)|refine Quo.r (And.intro (by omega) ?_)|refine Both.mk ?_ ?_|refine Exists.intro _ (And.intro rfl ?_)|refine fun _=>?_))|exact rfl)
    rename_i e he2
    have he2 : (vxTo g i)[i]? = some e := he2
    obtain rfl := vxTo_at (by omega) he2
    refine ⟨i + 1, [0], by omega, by omega, ?_⟩
    repeat' (first|((conv=>whnf); (first|refine brK_dec (fun _=>?_) (fun _=>?_)|refine brK_ndec (fun _=>?_) (fun _=>?_)|refine brK_not (fun _=>?_) (fun _=>?_)|refine brK_in (fun _=>?_) (fun _=>?_)|refine And.intro (by first|exact rfl|exact ((vxTo_set hx).symm)|exact ⟨_,rfl,rfl⟩|exact ⟨rfl,rfl,rfl⟩|exact of_decide_eq_true rfl|exact trivial|assumption|omega|(show (_ ≤ _ ∧ _ ≤ _); omega)|(simp; omega)|exact ⟨by first|omega|(simp; omega),_,rfl,rfl⟩) ?_|refine Quo.l (And.intro (by first|exact rfl|exact ((vxTo_set hx).symm)|assumption|omega|(simp; omega)) ?_)|refine Quo.r (And.intro (by omega) ?_)|refine Both.mk ?_ ?_|refine Exists.intro _ (And.intro rfl ?_)|refine fun _=>?_))|exact rfl)
  · rename_i hil
    have e : i = g.length := by omega
    subst e
    rw [vxTo_all]
    exact h
def c_laws_eqVertex : Con := ⟨0, 0, false, fun xs hs _ K => match xs with
  | [.agg [.val (.int .i64 r), .val (.int .i64 a), .ints p, .val (.int .i64 d)], .agg [.val (.int .i64 r'), .val (.int .i64 a'), .ints p', .val (.int .i64 d')]] => hs = [] ∧ r = r' ∧ a = a' ∧ p = p' ∧ d = d' ∧ p.length < 2000000 ∧ K (B true) [] []
  | _ => False⟩
theorem k_laws_eqVertex : Keeps' Tryd.prog 21 c_laws_eqVertex := by
  refine keeps_of_vc mix TyT_ok (cok_cons k_laws_eqIntS Tryd.func10 rfl rfl cok_nil) Tryd.func21 rfl rfl rfl ?_
  intro aargs hs Fs K h
  simp only [c_laws_eqVertex] at h
  split at h
  case h_2 => exact h.elim
  rename_i r a p d r' a' p' d'
  obtain ⟨rfl, rfl, rfl, rfl, rfl, hp, h⟩ := h
  repeat' (first|((conv=>whnf); (first|refine brK_dec (fun _=>?_) (fun _=>?_)|refine brK_ndec (fun _=>?_) (fun _=>?_)|refine brK_not (fun _=>?_) (fun _=>?_)|refine brK_in (fun _=>?_) (fun _=>?_)|refine And.intro (by first|exact rfl|exact ⟨_,rfl,rfl⟩|exact ⟨rfl,rfl,rfl⟩|exact of_decide_eq_true rfl|exact trivial|assumption|omega|(show (_ ≤ _ ∧ _ ≤ _); omega)|(simp; omega)|exact ⟨by first|omega|(simp; omega),_,rfl,rfl⟩) ?_|refine Quo.l (And.intro (by first|exact rfl|assumption|omega|(simp; omega)) ?_)|refine Quo.r (And.intro (by omega) ?_)|refine Both.mk ?_ ?_|refine Exists.intro _ (And.intro rfl ?_)|refine fun _=>?_))|exact rfl)
  all_goals first
    | exact h
    | (rename_i e; exact absurd rfl e)
def c_laws_eqVertexS : Con := ⟨0, 0, false, fun xs hs _ K => match xs with
  | [.sl 4 a, .sl 4 b] => hs = [] ∧ a = b ∧ ∃ g : List VxD, a = g.map VxD.row ∧ (∀ x ∈ g, x.p.length < 2000000) ∧ g.length < 2000000 ∧ K (B true) [] []
  | _ => False⟩
theorem k_laws_eqVertexS : Keeps' Tryd.prog 11 c_laws_eqVertexS := by
  refine keeps_of_vc mix TyT_ok (cok_cons k_laws_eqVertex Tryd.func21 rfl rfl cok_nil) Tryd.func11 rfl rfl rfl ?_
  intro aargs hs Fs K h
  simp only [c_laws_eqVertexS] at h
  split at h
  case h_2 => exact h.elim
  rename_i a b
  obtain ⟨rfl, rfl, g, rfl, hsm, hl, h⟩ := h
  have hlen : (g.map VxD.row).length = g.length := by simp
  repeat' (first|((conv=>whnf); (first|refine draw_plan (id := 6) [] [] (.take 0 (.take 1 (.take 2 (.take 3 (.take 4 (.take 5 (.take 6 (.take 7 (.run 8 (.take 9 .done)))))))))) (by kernel_rfl) (by kernel_rfl) ?_|refine brK_dec (fun _=>?_) (fun _=>?_)|refine brK_ndec (fun _=>?_) (fun _=>?_)|refine brK_not (fun _=>?_) (fun _=>?_)|refine brK_in (fun _=>?_) (fun _=>?_)|refine And.intro (by first|exact rfl|exact ⟨_,rfl,rfl⟩|exact ⟨rfl,rfl,rfl⟩|exact of_decide_eq_true rfl|exact trivial|assumption|omega|(show (_ ≤ _ ∧ _ ≤ _); omega)|(simp; omega)|exact ⟨by first|omega|(simp; omega),_,rfl,rfl⟩) ?_|refine Quo.l (And.intro (by first|exact rfl|assumption|omega|(simp; omega)) ?_)|refine Quo.r (And.intro (by omega) ?_)|refine Both.mk ?_ ?_|refine Exists.intro _ (And.intro rfl ?_)|refine fun _=>?_))|exact rfl)
  · rename_i q
    exact absurd rfl q
  refine loop_in (ι := Nat) (fun i => mkS 27 [(0, .sl 4 (g.map VxD.row)), (1, .sl 4 (g.map VxD.row)), (4, B false), (5, I i)] [] Fs) (fun i => i ≤ g.length) (fun i => g.length - i) 0 [] (Nat.zero_le _) ?_ ?_
  · repeat' (first|((conv=>whnf); (first|refine brK_dec (fun _=>?_) (fun _=>?_)|refine brK_ndec (fun _=>?_) (fun _=>?_)|refine brK_not (fun _=>?_) (fun _=>?_)|refine brK_in (fun _=>?_) (fun _=>?_)|refine And.intro (by first|exact rfl|exact ⟨_,rfl,rfl⟩|exact ⟨rfl,rfl,rfl⟩|exact of_decide_eq_true rfl|exact trivial|assumption|omega|(show (_ ≤ _ ∧ _ ≤ _); omega)|(simp; omega)|exact ⟨by first|omega|(simp; omega),_,rfl,rfl⟩) ?_|refine Quo.l (And.intro (by first|exact rfl|assumption|omega|(simp; omega)) ?_)|refine Quo.r (And.intro (by omega) ?_)|refine Both.mk ?_ ?_|refine Exists.intro _ (And.intro rfl ?_)|refine fun _=>?_))|exact rfl)
  intro i hi
  repeat' (first|((conv=>whnf); (first|refine draw_plan (id := 6) [] [] (.take 0 (.take 1 (.take 2 (.take 3 (.take 4 (.take 5 (.take 6 (.take 7 (.run 8 (.take 9 .done)))))))))) (by kernel_rfl) (by kernel_rfl) ?_|refine brK_dec (fun _=>?_) (fun _=>?_)|refine brK_ndec (fun _=>?_) (fun _=>?_)|refine brK_not (fun _=>?_) (fun _=>?_)|refine brK_in (fun _=>?_) (fun _=>?_)|refine And.intro (by first|exact rfl|exact ⟨_,rfl,rfl⟩|exact ⟨rfl,rfl,rfl⟩|exact of_decide_eq_true rfl|exact trivial|assumption|omega|(show (_ ≤ _ ∧ _ ≤ _); omega)|(simp; omega)|exact ⟨by first|omega|(simp; omega),_,rfl,rfl⟩) ?_|refine Quo.l (And.intro (by first|exact rfl|assumption|omega|(simp; omega)) ?_)|refine Quo.r (And.intro (by omega) ?_)|refine Both.mk ?_ ?_|refine Exists.intro _ (And.intro rfl ?_)|refine fun _=>?_))|exact rfl)
  · rename_i hil e he
    obtain ⟨x, hx, rfl⟩ := vxs_at he
    have hx : g[i]? = some x := hx
    have hb := hsm x (List.mem_of_getElem? hx)
    repeat' (first|((conv=>whnf); (first|refine draw_plan (id := 6) [] [] (.take 0 (.take 1 (.take 2 (.take 3 (.take 4 (.take 5 (.take 6 (.take 7 (.run 8 (.take 9 .done)))))))))) (by kernel_rfl) (by kernel_rfl) ?_|refine brK_dec (fun _=>?_) (fun _=>?_)|refine brK_ndec (fun _=>?_) (fun _=>?_)|refine brK_not (fun _=>?_) (fun _=>?_)|refine brK_in (fun _=>?_) (fun _=>?_)|refine And.intro (by first|exact rfl|exact ⟨_,rfl,rfl⟩|exact ⟨rfl,rfl,rfl⟩|exact of_decide_eq_true rfl|exact trivial|assumption|omega|(show (_ ≤ _ ∧ _ ≤ _); omega)|(simp; omega)|exact ⟨by first|omega|(simp; omega),_,rfl,rfl⟩) ?_|refine Quo.l (And.intro (by first|exact rfl|assumption|omega|(simp; omega)) ?_)|refine Quo.r (And.intro (by omega) ?_)|refine Both.mk ?_ ?_|refine Exists.intro _ (And.intro rfl ?_)|refine fun _=>?_))|exact rfl)
    rename_i e he2
    obtain ⟨y, hy, rfl⟩ := vxs_at he2
    have hy : g[i]? = some y := hy
    obtain rfl : x = y := Option.some.inj (hx.symm.trans hy)
    repeat' (first|((conv=>whnf); (first|refine draw_plan (id := 6) [] [] (.take 0 (.take 1 (.take 2 (.take 3 (.take 4 (.take 5 (.take 6 (.take 7 (.run 8 (.take 9 .done)))))))))) (by kernel_rfl) (by kernel_rfl) ?_|refine brK_dec (fun _=>?_) (fun _=>?_)|refine brK_ndec (fun _=>?_) (fun _=>?_)|refine brK_not (fun _=>?_) (fun _=>?_)|refine brK_in (fun _=>?_) (fun _=>?_)|refine And.intro (by first|exact rfl|exact ⟨_,rfl,rfl⟩|exact ⟨rfl,rfl,rfl⟩|exact of_decide_eq_true rfl|exact trivial|assumption|omega|(show (_ ≤ _ ∧ _ ≤ _); omega)|(simp; omega)|exact ⟨by first|omega|(simp; omega),_,rfl,rfl⟩) ?_|refine Quo.l (And.intro (by first|exact rfl|assumption|omega|(simp; omega)) ?_)|refine Quo.r (And.intro (by omega) ?_)|refine Both.mk ?_ ?_|refine Exists.intro _ (And.intro rfl ?_)|refine fun _=>?_))|exact rfl)
    refine ⟨i + 1, [], by omega, by omega, ?_⟩
    repeat' (first|((conv=>whnf); (first|refine brK_dec (fun _=>?_) (fun _=>?_)|refine brK_ndec (fun _=>?_) (fun _=>?_)|refine brK_not (fun _=>?_) (fun _=>?_)|refine brK_in (fun _=>?_) (fun _=>?_)|refine And.intro (by first|exact rfl|exact ⟨_,rfl,rfl⟩|exact ⟨rfl,rfl,rfl⟩|exact of_decide_eq_true rfl|exact trivial|assumption|omega|(show (_ ≤ _ ∧ _ ≤ _); omega)|(simp; omega)|exact ⟨by first|omega|(simp; omega),_,rfl,rfl⟩) ?_|refine Quo.l (And.intro (by first|exact rfl|assumption|omega|(simp; omega)) ?_)|refine Quo.r (And.intro (by omega) ?_)|refine Both.mk ?_ ?_|refine Exists.intro _ (And.intro rfl ?_)|refine fun _=>?_))|exact rfl)
  · exact h
def c_laws_toSlot : Con := ⟨0, 0, false, fun xs hs _ K => match xs with
  | [.agg [.val (.int .i64 r), .val (.int .i64 a)]] => hs = [] ∧ K (.agg [I r, I a]) [] []
  | _ => False⟩
theorem k_laws_toSlot : Keeps' Tryd.prog 8 c_laws_toSlot := by
  refine keeps_of_vc mix TyT_ok cok_nil Tryd.func8 rfl rfl rfl ?_
  intro aargs hs Fs K h
  simp only [c_laws_toSlot] at h
  split at h
  case h_2 => exact h.elim
  rename_i r a
  obtain ⟨rfl, h⟩ := h
  repeat' (first|((conv=>whnf); (first|refine brK_dec (fun _=>?_) (fun _=>?_)|refine brK_ndec (fun _=>?_) (fun _=>?_)|refine brK_not (fun _=>?_) (fun _=>?_)|refine brK_in (fun _=>?_) (fun _=>?_)|refine And.intro (by first|exact rfl|exact ⟨_,rfl,rfl⟩|exact ⟨rfl,rfl,rfl⟩|exact of_decide_eq_true rfl|exact trivial|assumption|omega|(show (_ ≤ _ ∧ _ ≤ _); omega)|(simp; omega)|exact ⟨by first|omega|(simp; omega),_,rfl,rfl⟩) ?_|refine Quo.l (And.intro (by first|exact rfl|assumption|omega|(simp; omega)) ?_)|refine Quo.r (And.intro (by omega) ?_)|refine Both.mk ?_ ?_|refine Exists.intro _ (And.intro rfl ?_)|refine fun _=>?_))|exact rfl)
  exact h
end Go.Proofs.YtkabnbjlglippaaDoor
