/-
Drawn graphs that may be spoilt, drawn leaders.
No conditions.
-/
import Derived.Test.YtenflffikgfphaaDoorWaA
namespace Go.Proofs.YtenflffikgfphaaDoor
open Go Go.Vc
set_option maxHeartbeats 4000000
set_option maxRecDepth 10000
def c_spec_l91Members : Con := ⟨1, 1, false, fun xs hs _ K => match xs, hs with
  | [.ptr 0 0, .val (.int .i64 n)], [.cells [.bytes b, .val (.int .i64 off)]] => b.length ≤ 2000 ∧ 0 ≤ off ∧ off ≤ 900000 ∧ 0 ≤ n ∧ n ≤ 20 ∧ ∀ off' l, off ≤ off' → off' ≤ off + 100 → l.length ≤ 30 → K (.own 1) [rdO b off', .iarr l] []
  | _, _ => False⟩
theorem k_spec_l91Members : Keeps' Tryd.prog 65 c_spec_l91Members := by
  refine keeps_of_vc mix TyT_ok (cok_cons k_spec_l6Rd_pick Tryd.func39 rfl rfl cok_nil) Tryd.func65 rfl rfl rfl ?_
  intro aargs hs Fs K h
  simp only [c_spec_l91Members] at h
  split at h
  case h_2 => exact h.elim
  rename_i n b off
  obtain ⟨hb, h0, h1, hn0, hn1, h⟩ := h
  repeat' (first
    | ((conv => whnf); (first
      | refine brK_dec (fun _ => ?_) (fun _ => ?_)
      | refine brK_ndec (fun _ => ?_) (fun _ => ?_)
      | refine brK_not (fun _ => ?_) (fun _ => ?_)
      | refine brK_in (fun _ => ?_) (fun _ => ?_)
      | refine And.intro (by first | exact rfl | exact ⟨_, rfl, rfl⟩ | exact ⟨rfl, rfl, rfl⟩ | exact of_decide_eq_true rfl | exact trivial | assumption | omega | (show (_ ≤ _ ∧ _ ≤ _); omega) | (simp; omega) | exact ⟨by first | omega | (simp; omega), _, rfl, rfl⟩) ?_
      | refine Both.mk ?_ ?_
      | refine Exists.intro _ (And.intro rfl ?_)
      | refine fun _ => ?_))
    | exact rfl)
  refine loop_in (ι := Nat × Int × List Int) (fun g => mkS 37 [(0, .ptr 0 0), (1, I n), (4, .val (.slice none 0 0)), (5, .own 1), (6, I g.1)] [rdO b g.2.1, .iarr g.2.2] Fs)
    (fun g => (g.1 : Int) ≤ n ∧ off ≤ g.2.1 ∧ g.2.1 ≤ off + g.1 ∧ g.2.2.length ≤ g.1) (fun g => n.toNat - g.1) (0, off, []) [0, 1] ⟨by simp; omega, by simp, by simp, by simp⟩ ?_ ?_
  · repeat' (first
      | ((conv => whnf); (first
        | refine brK_dec (fun _ => ?_) (fun _ => ?_)
        | refine brK_ndec (fun _ => ?_) (fun _ => ?_)
        | refine brK_not (fun _ => ?_) (fun _ => ?_)
        | refine brK_in (fun _ => ?_) (fun _ => ?_)
        | refine And.intro (by first | exact rfl | exact ⟨_, rfl, rfl⟩ | exact ⟨rfl, rfl, rfl⟩ | exact of_decide_eq_true rfl | exact trivial | assumption | omega | (show (_ ≤ _ ∧ _ ≤ _); omega) | (simp; omega) | exact ⟨by first | omega | (simp; omega), _, rfl, rfl⟩) ?_
        | refine Both.mk ?_ ?_
        | refine Exists.intro _ (And.intro rfl ?_)
        | refine fun _ => ?_))
      | exact rfl)
  rintro ⟨i, o, l⟩ ⟨hi, ho1, ho2, hl⟩
  dsimp only at hi ho1 ho2 hl ⊢
  repeat' (first
    | ((conv => whnf); (first
      | refine brK_dec (fun _ => ?_) (fun _ => ?_)
      | refine brK_ndec (fun _ => ?_) (fun _ => ?_)
      | refine brK_not (fun _ => ?_) (fun _ => ?_)
      | refine brK_in (fun _ => ?_) (fun _ => ?_)
      | refine And.intro (by first | exact rfl | exact ⟨_, rfl, rfl⟩ | exact ⟨rfl, rfl, rfl⟩ | exact of_decide_eq_true rfl | exact trivial | assumption | omega | (show (_ ≤ _ ∧ _ ≤ _); omega) | (simp; omega) | exact ⟨by first | omega | (simp; omega), _, rfl, rfl⟩) ?_
      | refine Both.mk ?_ ?_
      | refine Exists.intro _ (And.intro rfl ?_)
      | refine fun _ => ?_))
    | exact rfl)
  · refine ⟨(i + 1, o + 1, List.take l.length l ++ [(i : Int)]), [0, 1], ⟨by dsimp only; omega, by dsimp only; omega, by dsimp only; omega, by dsimp only; simp; omega⟩, by dsimp only; omega, ?_⟩
    repeat' (first
      | ((conv => whnf); (first
        | refine brK_dec (fun _ => ?_) (fun _ => ?_)
        | refine brK_ndec (fun _ => ?_) (fun _ => ?_)
        | refine brK_not (fun _ => ?_) (fun _ => ?_)
        | refine brK_in (fun _ => ?_) (fun _ => ?_)
        | refine And.intro (by first | exact rfl | exact ⟨_, rfl, rfl⟩ | exact ⟨rfl, rfl, rfl⟩ | exact of_decide_eq_true rfl | exact trivial | assumption | omega | (show (_ ≤ _ ∧ _ ≤ _); omega) | (simp; omega) | exact ⟨by first | omega | (simp; omega), _, rfl, rfl⟩) ?_
        | refine Both.mk ?_ ?_
        | refine Exists.intro _ (And.intro rfl ?_)
        | refine fun _ => ?_))
      | exact rfl)
  · refine ⟨(i + 1, o + 1, l), [0, 1], ⟨by dsimp only; omega, by dsimp only; omega, by dsimp only; omega, by dsimp only; omega⟩, by dsimp only; omega, ?_⟩
    repeat' (first
      | ((conv => whnf); (first
        | refine brK_dec (fun _ => ?_) (fun _ => ?_)
        | refine brK_ndec (fun _ => ?_) (fun _ => ?_)
        | refine brK_not (fun _ => ?_) (fun _ => ?_)
        | refine brK_in (fun _ => ?_) (fun _ => ?_)
        | refine And.intro (by first | exact rfl | exact ⟨_, rfl, rfl⟩ | exact ⟨rfl, rfl, rfl⟩ | exact of_decide_eq_true rfl | exact trivial | assumption | omega | (show (_ ≤ _ ∧ _ ≤ _); omega) | (simp; omega) | exact ⟨by first | omega | (simp; omega), _, rfl, rfl⟩) ?_
        | refine Both.mk ?_ ?_
        | refine Exists.intro _ (And.intro rfl ?_)
        | refine fun _ => ?_))
      | exact rfl)
  all_goals exact h _ _ (by omega) (by omega) (by first | omega | (simp; omega))
theorem gfit_set {g : List VxD} {v : VxD} {i : Nat} (h : gfit g) (hv : v.p.length ≤ 260) : gfit (g.set i v) := by
  intro x hx
  rcases List.mem_or_eq_of_mem_set hx with hx | hx
  · exact h x hx
  · rw [hx]; exact hv
/-- How a committee is handed back: only read, as an object, or as an empty part of one. -/
def shC (r : AV) (hs : List AO) (c : List Int) : Prop := (r = .ints c ∧ hs = []) ∨ (r = .own 1 ∧ hs = [.iarr c]) ∨ (r = .sub 1 0 0 ∧ c = [] ∧ ∃ d, hs = [.iarr d])
def c_spec_l91Spoilt : Con := ⟨2, 1, true, fun xs hs _ K => match xs, hs with
  | [.ptr 0 0, .val (.int .i64 m)], [.cells [.bytes b, .val (.int .i64 off)]] => b.length ≤ 2000 ∧ 0 ≤ off ∧ off ≤ 100000 ∧ 0 ≤ m ∧ m ≤ 13 ∧
    ∀ off' c (g : List VxD) r hs, off ≤ off' → off' ≤ off + 110000 → c.length ≤ 20 → g.length ≤ 261 → gfit g → shC r hs c → K (.tup [r, .own (1 + hs.length)]) (rdO b off' :: (hs ++ [.arr 4 (g.map VxD.row)])) []
  | _, _ => False⟩
theorem k_spec_l91Spoilt : Keeps' Tryd.prog 40 c_spec_l91Spoilt := by
  refine keeps_of_vc mix TyT_ok (cok_cons k_spec_l91Good Tryd.func62 rfl rfl (cok_cons k_spec_l91Graph Tryd.func63 rfl rfl (cok_cons k_spec_l6Rd_pick Tryd.func39 rfl rfl (cok_cons k_spec_l91Digest Tryd.func64 rfl rfl (cok_cons k_spec_l91Members Tryd.func65 rfl rfl (cok_cons k_spec_l91Committee Tryd.func66 rfl rfl cok_nil)))))) Tryd.func40 rfl rfl rfl ?_
  intro aargs hs Fs K h
  simp only [c_spec_l91Spoilt] at h
  split at h
  case h_2 => exact h.elim
  rename_i m b off
  obtain ⟨hb, h0, h1, hm0, hm1, h⟩ := h
  repeat' (first
    | ((conv => whnf); (first
      | refine brK_dec (fun _ => ?_) (fun _ => ?_)
      | refine brK_ndec (fun _ => ?_) (fun _ => ?_)
      | refine brK_not (fun _ => ?_) (fun _ => ?_)
      | refine brK_in (fun _ => ?_) (fun _ => ?_)
      | refine And.intro (by first | exact rfl | exact (by first | (simp; omega) | exact Nat.le_trans (Nat.mul_le_mul_right _ (show _ ≤ 1000 from by simp [chunks]; omega)) (by decide) | (simp [chunks]; omega)) | exact ⟨_, rfl, rfl⟩ | exact ⟨rfl, rfl, rfl⟩ | exact of_decide_eq_true rfl | exact trivial | assumption | omega | (show (_ ≤ _ ∧ _ ≤ _); omega) | (simp; omega) | exact ⟨by first | omega | (simp; omega), _, rfl, rfl⟩) ?_
      | refine Both.mk ?_ ?_
      | refine Exists.intro _ (And.intro rfl ?_)
      | refine opt_use (by assumption) ?_
      | refine vrow_use (by assumption) ?_
      | refine vrow_in (fun _ _ => ?_)
      | refine fun _ => ?_))
    | exact rfl)
  · rename_i o1 c p1 p2 p3 p4 o2 g q1 q2 q3 q4 q5
    exact h o2 c g _ _ (by omega) (by omega) p3 (by omega) q4 (.inl ⟨rfl, rfl⟩)
  · rename_i o1 c p1 p2 p3 p4 o2 g q1 q2 q3 q4 hne k k0 k1 z z0 z1 hz o3 d w1 w2 w3 w4 x hx
    have hx : g[k.toNat]? = some x := hx
    have e1 : (g.map VxD.row).set k.toNat (splice x.row 3 [I d]) = (g.set k.toNat ⟨x.r, x.a, x.p, d⟩).map VxD.row := by rw [List.map_set]; rfl
    have hfx := q4 x (List.mem_of_getElem? hx)
    have e2 := h (o3) c (g.set k.toNat ⟨x.r, x.a, x.p, d⟩) _ _ (by omega) (by omega) p3 (by simp; omega) (gfit_set q4 (by dsimp only; omega)) (.inl ⟨rfl, rfl⟩)
    rw [← e1] at e2
    exact e2
  · rename_i o1 c p1 p2 p3 p4 o2 g q1 q2 q3 q4 hne k k0 k1 z z0 z1 hz hz2 y y0 y1 x hx
    have hx : g[k.toNat]? = some x := hx
    have e1 : (g.map VxD.row).set k.toNat (splice x.row 0 [I (y - 1)]) = (g.set k.toNat ⟨y - 1, x.a, x.p, x.d⟩).map VxD.row := by rw [List.map_set]; rfl
    have hfx := q4 x (List.mem_of_getElem? hx)
    have e2 := h (o2 + 1 + 1 + 1) c (g.set k.toNat ⟨y - 1, x.a, x.p, x.d⟩) _ _ (by omega) (by omega) p3 (by simp; omega) (gfit_set q4 (by dsimp only; omega)) (.inl ⟨rfl, rfl⟩)
    rw [← e1] at e2
    exact e2
  · rename_i o1 c p1 p2 p3 p4 o2 g q1 q2 q3 q4 hne k k0 k1 z z0 z1 hz hz2 hz3 y y0 y1 x hx
    have hx : g[k.toNat]? = some x := hx
    have e1 : (g.map VxD.row).set k.toNat (splice x.row 1 [I (y - 1)]) = (g.set k.toNat ⟨x.r, y - 1, x.p, x.d⟩).map VxD.row := by rw [List.map_set]; rfl
    have hfx := q4 x (List.mem_of_getElem? hx)
    have e2 := h (o2 + 1 + 1 + 1) c (g.set k.toNat ⟨x.r, y - 1, x.p, x.d⟩) _ _ (by omega) (by omega) p3 (by simp; omega) (gfit_set q4 (by dsimp only; omega)) (.inl ⟨rfl, rfl⟩)
    rw [← e1] at e2
    exact e2
  · rename_i o1 c p1 p2 p3 p4 o2 g q1 q2 q3 q4 hne k k0 k1 z z0 z1 hz hz2 hz3 hz4 o3 l w1 w2 w3 x hx
    have hx : g[k.toNat]? = some x := hx
    have e1 : (g.map VxD.row).set k.toNat (splice x.row 2 [.ints l]) = (g.set k.toNat ⟨x.r, x.a, l, x.d⟩).map VxD.row := by rw [List.map_set]; rfl
    have hfx := q4 x (List.mem_of_getElem? hx)
    have e2 := h (o3) c (g.set k.toNat ⟨x.r, x.a, l, x.d⟩) _ _ (by omega) (by omega) p3 (by simp; omega) (gfit_set q4 (by dsimp only; omega)) (.inl ⟨rfl, rfl⟩)
    rw [← e1] at e2
    exact e2
  · rename_i o1 c p1 p2 p3 p4 o2 g q1 q2 q3 q4 hne k k0 k1 z z0 z1 hz hz2 hz3 hz4 hz5
    have hlen : (g.map VxD.row).length = g.length := by simp
    repeat' (first
      | ((conv => whnf); (first
        | refine draw_plan (id := 16) [] [] (.take 1 (.take 2 (.take 3 (.take 5 (.take 6 (.take 7 (.take 8 (.run 0 (.run 4 (.run 9 (.take 10 .done))))))))))) (by kernel_rfl) (by kernel_rfl) ?_
        | refine brK_dec (fun _ => ?_) (fun _ => ?_)
        | refine brK_ndec (fun _ => ?_) (fun _ => ?_)
        | refine brK_not (fun _ => ?_) (fun _ => ?_)
        | refine brK_in (fun _ => ?_) (fun _ => ?_)
        | refine And.intro (by first | exact rfl | exact (by first | (simp; omega) | exact Nat.le_trans (Nat.mul_le_mul_right _ (show _ ≤ 1000 from by simp [chunks]; omega)) (by decide) | (simp [chunks]; omega)) | exact ⟨_, rfl, rfl⟩ | exact ⟨rfl, rfl, rfl⟩ | exact of_decide_eq_true rfl | exact trivial | assumption | omega | (show (_ ≤ _ ∧ _ ≤ _); omega) | (simp; omega) | exact ⟨by first | omega | (simp; omega), _, rfl, rfl⟩) ?_
        | refine Both.mk ?_ ?_
        | refine Exists.intro _ (And.intro rfl ?_)
        | refine opt_use (by assumption) ?_
        | refine vrow_use (by assumption) ?_
        | refine vrow_in (fun _ _ => ?_)
        | refine fun _ => ?_))
      | exact rfl)
    have e3 : ∀ R, R = (g.take k.toNat ++ g.drop (k + 1).toNat).map VxD.row → K (.tup [.ints c, .own 1]) [rdO b (o2 + 1 + 1), .arr 4 R] [] := fun R hR => by
      rw [hR]
      exact h (o2 + 1 + 1) c (g.take k.toNat ++ g.drop (k + 1).toNat) _ _ (by omega) (by omega) p3 (by simp; omega) (fun x hx => (List.mem_append.1 hx).elim (fun q => q4 x (List.mem_of_mem_take q)) fun q => q4 x (List.mem_of_mem_drop q)) (.inl ⟨rfl, rfl⟩)
    refine e3 _ ?_
    rw [List.map_append, List.map_take, List.map_drop]
    have hkl : k.toNat < g.length := by omega
    have f1 : List.take (min k.toNat g.length) (List.take k.toNat (g.map VxD.row)) = List.take k.toNat (g.map VxD.row) := List.take_of_length_le (by simp)
    have f2 : List.take (g.length - (k + 1).toNat) (List.drop (k + 1).toNat (g.map VxD.row)) = List.drop (k + 1).toNat (g.map VxD.row) := List.take_of_length_le (by simp)
    simp [chunks]
    rw [f1, f2]
  · rename_i o1 c p1 p2 p3 p4 o2 g q1 q2 q3 q4 hne k k0 k1 z z0 z1 hz hz2 hz3 hz4 hz5 hz6 x hx
    have hfx := q4 x (List.mem_of_getElem? hx)
    have e3 : ∀ R, R = (g ++ [x]).map VxD.row → K (.tup [.ints c, .own 1]) [rdO b (o2 + 1 + 1), .arr 4 R] [] := fun R hR => by
      rw [hR]
      exact h (o2 + 1 + 1) c (g ++ [x]) _ _ (by omega) (by omega) p3 (by simp; omega) (gfit_app q4 hfx) (.inl ⟨rfl, rfl⟩)
    refine e3 _ ?_
    rw [List.take_length, List.map_append]
    rfl
  · rename_i o1 c p1 p2 p3 p4 o2 g q1 q2 q3 q4 hne k k0 k1 z z0 z1 hz hz2 hz3 hz4 hz5 hz6 hz7 o3 c2 r w1 w2 w3 hr hx
    rcases hr with rfl | rfl
    · repeat' (first
        | ((conv => whnf); (first
          | refine brK_dec (fun _ => ?_) (fun _ => ?_)
          | refine brK_ndec (fun _ => ?_) (fun _ => ?_)
          | refine brK_not (fun _ => ?_) (fun _ => ?_)
          | refine brK_in (fun _ => ?_) (fun _ => ?_)
          | refine And.intro (by first | exact rfl | exact ⟨_, rfl, rfl⟩ | exact ⟨rfl, rfl, rfl⟩ | exact of_decide_eq_true rfl | exact trivial | assumption | omega | (show (_ ≤ _ ∧ _ ≤ _); omega) | (simp; omega) | exact ⟨by first | omega | (simp; omega), _, rfl, rfl⟩) ?_
          | refine Both.mk ?_ ?_
          | refine Exists.intro _ (And.intro rfl ?_)
          | refine opt_use (by assumption) ?_
          | refine vrow_use (by assumption) ?_
          | refine vrow_in (fun _ _ => ?_)
          | refine fun _ => ?_))
        | exact rfl)
      exact h o3 c2 g _ _ (by omega) (by omega) w3 (by omega) q4 (.inr (.inl ⟨rfl, rfl⟩))
    · repeat' (first
        | ((conv => whnf); (first
          | refine brK_dec (fun _ => ?_) (fun _ => ?_)
          | refine brK_ndec (fun _ => ?_) (fun _ => ?_)
          | refine brK_not (fun _ => ?_) (fun _ => ?_)
          | refine brK_in (fun _ => ?_) (fun _ => ?_)
          | refine And.intro (by first | exact rfl | exact ⟨_, rfl, rfl⟩ | exact ⟨rfl, rfl, rfl⟩ | exact of_decide_eq_true rfl | exact trivial | assumption | omega | (show (_ ≤ _ ∧ _ ≤ _); omega) | (simp; omega) | exact ⟨by first | omega | (simp; omega), _, rfl, rfl⟩) ?_
          | refine Both.mk ?_ ?_
          | refine Exists.intro _ (And.intro rfl ?_)
          | refine opt_use (by assumption) ?_
          | refine vrow_use (by assumption) ?_
          | refine vrow_in (fun _ _ => ?_)
          | refine fun _ => ?_))
        | exact rfl)
      exact h o3 [] g _ _ (by omega) (by omega) (by simp) (by omega) q4 (.inr (.inr ⟨rfl, rfl, _, rfl⟩))
  · rename_i o1 c p1 p2 p3 p4 o2 g q1 q2 q3 q4 hne k k0 k1 z z0 z1 hz hz2 hz3 hz4 hz5 hz6 hz7
    exact h (o2 + 1 + 1) c g _ _ (by omega) (by omega) p3 (by omega) q4 (.inl ⟨rfl, rfl⟩)
def c_spec_l92Leaders : Con := ⟨1, 1, false, fun xs hs _ K => match xs, hs with
  | [.ptr 0 0, .ints c, .val (.int .i64 n)], [.cells [.bytes b, .val (.int .i64 off)]] => b.length ≤ 2000 ∧ 0 ≤ off ∧ off ≤ 500000 ∧ c.length ≤ 20 ∧ 0 ≤ n ∧ n ≤ 8 ∧ ∀ off' l, off ≤ off' → off' ≤ off + 100 → l.length ≤ 30 → K (.own 1) [rdO b off', .iarr l] []
  | _, _ => False⟩
theorem k_spec_l92Leaders : Keeps' Tryd.prog 41 c_spec_l92Leaders := by
  refine keeps_of_vc mix TyT_ok (cok_cons k_spec_l6Rd_pick Tryd.func39 rfl rfl cok_nil) Tryd.func41 rfl rfl rfl ?_
  intro aargs hs Fs K h
  simp only [c_spec_l92Leaders] at h
  split at h
  case h_2 => exact h.elim
  rename_i c n b off
  obtain ⟨hb, h0, h1, hc, hn0, hn1, h⟩ := h
  repeat' (first
    | ((conv => whnf); (first
      | refine brK_dec (fun _ => ?_) (fun _ => ?_)
      | refine brK_ndec (fun _ => ?_) (fun _ => ?_)
      | refine brK_not (fun _ => ?_) (fun _ => ?_)
      | refine brK_in (fun _ => ?_) (fun _ => ?_)
      | refine And.intro (by first | exact rfl | exact ⟨_, rfl, rfl⟩ | exact ⟨rfl, rfl, rfl⟩ | exact of_decide_eq_true rfl | exact trivial | assumption | omega | (show (_ ≤ _ ∧ _ ≤ _); omega) | (simp; omega) | exact ⟨by first | omega | (simp; omega), _, rfl, rfl⟩) ?_
      | refine Both.mk ?_ ?_
      | refine Exists.intro _ (And.intro rfl ?_)
      | refine opt_use (by assumption) ?_
      | refine vrow_use (by assumption) ?_
      | refine vrow_in (fun _ _ => ?_)
      | refine fun _ => ?_))
    | exact rfl)
  refine loop_in (ι := Nat × Int × List Int) (fun g => mkS 37 [(0, .ptr 0 0), (1, .ints c), (2, I n), (7, .own 1), (8, I g.1)] [rdO b g.2.1, .iarr g.2.2] Fs)
    (fun g => (g.1 : Int) ≤ n ∧ off ≤ g.2.1 ∧ g.2.1 ≤ off + g.1 ∧ g.2.2.length ≤ g.1) (fun g => n.toNat - g.1) (0, off, []) [0, 1] ⟨by simp; omega, by simp, by simp, by simp⟩ ?_ ?_
  · repeat' (first
      | ((conv => whnf); (first
        | refine brK_dec (fun _ => ?_) (fun _ => ?_)
        | refine brK_ndec (fun _ => ?_) (fun _ => ?_)
        | refine brK_not (fun _ => ?_) (fun _ => ?_)
        | refine brK_in (fun _ => ?_) (fun _ => ?_)
        | refine And.intro (by first | exact rfl | exact ⟨_, rfl, rfl⟩ | exact ⟨rfl, rfl, rfl⟩ | exact of_decide_eq_true rfl | exact trivial | assumption | omega | (show (_ ≤ _ ∧ _ ≤ _); omega) | (simp; omega) | exact ⟨by first | omega | (simp; omega), _, rfl, rfl⟩) ?_
        | refine Both.mk ?_ ?_
        | refine Exists.intro _ (And.intro rfl ?_)
        | refine opt_use (by assumption) ?_
        | refine vrow_use (by assumption) ?_
        | refine vrow_in (fun _ _ => ?_)
        | refine fun _ => ?_))
      | exact rfl)
  rintro ⟨i, o, l⟩ ⟨hi, ho1, ho2, hl⟩
  dsimp only at hi ho1 ho2 hl ⊢
  repeat' (first
    | ((conv => whnf); (first
      | refine brK_dec (fun _ => ?_) (fun _ => ?_)
      | refine brK_ndec (fun _ => ?_) (fun _ => ?_)
      | refine brK_not (fun _ => ?_) (fun _ => ?_)
      | refine brK_in (fun _ => ?_) (fun _ => ?_)
      | refine And.intro (by first | exact rfl | exact ⟨_, rfl, rfl⟩ | exact ⟨rfl, rfl, rfl⟩ | exact of_decide_eq_true rfl | exact trivial | assumption | omega | (show (_ ≤ _ ∧ _ ≤ _); omega) | (simp; omega) | exact ⟨by first | omega | (simp; omega), _, rfl, rfl⟩) ?_
      | refine Both.mk ?_ ?_
      | refine Exists.intro _ (And.intro rfl ?_)
      | refine opt_use (by assumption) ?_
      | refine vrow_use (by assumption) ?_
      | refine vrow_in (fun _ _ => ?_)
      | refine fun _ => ?_))
    | exact rfl)
  · rename_i hin v v0 v1
    refine ⟨(i + 1, o + 1, l ++ [v]), [0, 1], ⟨by dsimp only; omega, by dsimp only; omega, by dsimp only; omega, by dsimp only; simp; omega⟩, by dsimp only; omega, ?_⟩
    repeat' (first
      | ((conv => whnf); (first
        | refine brK_dec (fun _ => ?_) (fun _ => ?_)
        | refine brK_ndec (fun _ => ?_) (fun _ => ?_)
        | refine brK_not (fun _ => ?_) (fun _ => ?_)
        | refine brK_in (fun _ => ?_) (fun _ => ?_)
        | refine And.intro (by first | exact rfl | exact (by rw [List.take_length]) | exact ⟨_, rfl, rfl⟩ | exact ⟨rfl, rfl, rfl⟩ | exact of_decide_eq_true rfl | exact trivial | assumption | omega | (show (_ ≤ _ ∧ _ ≤ _); omega) | (simp; omega) | exact ⟨by first | omega | (simp; omega), _, rfl, rfl⟩) ?_
        | refine Both.mk ?_ ?_
        | refine Exists.intro _ (And.intro rfl ?_)
        | refine opt_use (by assumption) ?_
        | refine vrow_use (by assumption) ?_
        | refine vrow_in (fun _ _ => ?_)
        | refine fun _ => ?_))
      | exact rfl)
  all_goals exact h _ _ (by omega) (by omega) (by first | omega | (simp; omega))
end Go.Proofs.YtenflffikgfphaaDoor
