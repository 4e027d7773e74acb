/-
The laws' own functions: sizes, copies, comparisons of epochs.
The laws' own functions on vertices: sizes, copies, comparisons; slots.
The laws' own functions on vertices that lie in memory of their own: sizes, copies.
The laws' own marks on slices of numbers.
Marks on slices that lie in the elements of a slice: on numbers.
Marks on slices that lie in the elements of a slice: on vertices.
No conditions.
-/
import Derived.Test.YtkabnbjlglippaaGreatDoorEvB
import Derived.Test.YtkabnbjlglippaaGreatDoorPlA
import Derived.Test.YtkabnbjlglippaaGreatDoorVcMH
import Derived.Test.YtkabnbjlglippaaGreatDoorVcMG
import Derived.WalkKit
import Derived.LoopTactic
namespace Go.Proofs.YtkabnbjlglippaaGreatDoor
open Go Go.Vc
set_option maxHeartbeats 1000000
set_option maxRecDepth 10000
def szI (l : List Int) (n : Int) : Int := if n - l.length < 0 then -1 else n - l.length
def c_laws_szIntS : Con := ⟨0, 0, false, fun xs hs _ K => match xs with
  | [.ints l, .val (.int .i64 n)] => hs = [] ∧ l.length ≤ 9223372036854775807 ∧ 0 ≤ n ∧ n ≤ 1048576 ∧ K (I (szI l n)) [] []
  | _ => False⟩
theorem k_laws_szIntS : Keeps' Tryz.prog 77 c_laws_szIntS := by
  refine keeps_of_vc mix TyT_ok cok_nil Tryz.func77 rfl rfl rfl ?_
  intro aargs hs Fs K h
  simp only [c_laws_szIntS] at h
  split at h
  case h_2 => exact h.elim
  rename_i l n
  obtain ⟨rfl, hl, h0, h1, h⟩ := h
  have no : ∀ {b : Int}, szI l n = b → K (I b) [] [] := fun e => by rw [← e]; exact h
  repeat' (first|((conv=>whnf); (first|refine brK_dec (fun _=>?_) (fun _=>?_)|refine brK_ndec (fun _=>?_) (fun _=>?_)|refine brK_not (fun _=>?_) (fun _=>?_)|refine brK_in (fun _=>?_) (fun _=>?_)|refine And.intro (by first|exact rfl|exact ⟨_,rfl,rfl⟩|exact ⟨rfl,rfl,rfl⟩|exact of_decide_eq_true rfl|exact trivial|assumption|omega|(show (_ ≤ _ ∧ _ ≤ _); omega)|(simp; omega)|exact ⟨by first|omega|(simp; omega),_,rfl,rfl⟩) ?_|refine Quo.l (And.intro (by first|exact rfl|assumption|omega|(simp; omega)) ?_)|refine Quo.r (And.intro (by omega) ?_)|refine Both.mk ?_ ?_|refine Exists.intro _ (And.intro rfl ?_)|refine fun _=>?_))|exact rfl)
  · rename_i h1; exact no (by simp [szI]; omega)
  · rename_i h1; exact no (by simp [szI]; omega)
theorem szI_le {l : List Int} {n : Int} (h : 0 ≤ szI l n) : (l.length : Int) ≤ n ∧ szI l n = n - l.length := by
  unfold szI at *
  split at h
  · omega
  · rename_i hn; rw [if_neg hn]; omega
theorem szI_neg {l : List Int} {n : Int} (h : szI l n < 0) : szI l n = -1 := by
  unfold szI at *
  split at h
  · rename_i hn; rw [if_pos hn]
  · omega
def szE (c k : List Int) (n : Int) : Int := if szI c n < 0 then -1 else szI k (szI c n)
def c_laws_szEpoch : Con := ⟨0, 0, false, fun xs hs _ K => match xs with
  | [.agg [.val (.int .i64 _), .ints c, .ints k, .val (.int .i64 _)], .val (.int .i64 n)] => hs = [] ∧ c.length ≤ 9223372036854775807 ∧ k.length ≤ 9223372036854775807 ∧ 0 ≤ n ∧ n ≤ 1048576 ∧ K (I (szE c k n)) [] []
  | _ => False⟩
theorem szE_le {c k : List Int} {n : Int} (hn : n ≤ 1048576) (h : ¬ szE c k n < 0) : c.length ≤ 1048576 ∧ k.length ≤ 1048576 := by
  unfold szE at h
  split at h
  · omega
  · rename_i h1
    have h2 := szI_le (l := c) (n := n) (by omega)
    have h3 := szI_le (l := k) (n := szI c n) (by omega)
    omega
theorem set_fill {l : List Int} {i : Nat} {x : Int} (hx : l[i]? = some x) : (l.take i ++ List.replicate (l.length - i) 0).set i x = l.take (i + 1) ++ List.replicate (l.length - (i + 1)) 0 := by
  obtain ⟨hi, _⟩ := List.getElem?_eq_some_iff.1 hx
  have e : l.length - i = (l.length - (i + 1)) + 1 := by omega
  have e1 : (l.take i).length = i := by simp; omega
  rw [List.set_append, if_neg (by omega), List.take_add_one, hx, e, List.replicate_succ, e1]
  simp
def c_laws_toIntS : Con := ⟨1, 0, false, fun xs hs _ K => match xs with
  | [.ints l] => hs = [] ∧ l.length ≤ 1048576 ∧ K (.own 0) [.iarr l] []
  | _ => False⟩
theorem k_laws_toIntS : Keeps' Tryz.prog 17 c_laws_toIntS := by
  refine keeps_of_vc mix TyT_ok cok_nil Tryz.func17 rfl rfl rfl ?_
  intro aargs hs Fs K h
  simp only [c_laws_toIntS] at h
  split at h
  case h_2 => exact h.elim
  rename_i l
  obtain ⟨rfl, hl, h⟩ := h
  repeat' (first|((conv=>whnf); (first|refine brK_dec (fun _=>?_) (fun _=>?_)|refine brK_ndec (fun _=>?_) (fun _=>?_)|refine brK_not (fun _=>?_) (fun _=>?_)|refine brK_in (fun _=>?_) (fun _=>?_)|refine And.intro (by first|exact rfl|exact ⟨_,rfl,rfl⟩|exact ⟨rfl,rfl,rfl⟩|exact of_decide_eq_true rfl|exact trivial|assumption|omega|(show (_ ≤ _ ∧ _ ≤ _); omega)|(simp; omega)|exact ⟨by first|omega|(simp; omega),_,rfl,rfl⟩) ?_|refine Quo.l (And.intro (by first|exact rfl|assumption|omega|(simp; omega)) ?_)|refine Quo.r (And.intro (by omega) ?_)|refine Both.mk ?_ ?_|refine Exists.intro _ (And.intro rfl ?_)|refine fun _=>?_))|exact rfl)
  refine loop_in (ι := Nat) (fun i => mkS 22 [(0, .ints l), (3, .own 0), (4, I i)] [.iarr (l.take i ++ List.replicate (l.length - i) 0)] Fs) (fun i => i ≤ l.length) (fun i => l.length - i) 0 [0] (Nat.zero_le _) ?_ ?_
  · repeat' (first|((conv=>whnf); (first|refine brK_dec (fun _=>?_) (fun _=>?_)|refine brK_ndec (fun _=>?_) (fun _=>?_)|refine brK_not (fun _=>?_) (fun _=>?_)|refine brK_in (fun _=>?_) (fun _=>?_)|refine And.intro (by first|exact rfl|exact ⟨_,rfl,rfl⟩|exact ⟨rfl,rfl,rfl⟩|exact of_decide_eq_true rfl|exact trivial|assumption|omega|(show (_ ≤ _ ∧ _ ≤ _); omega)|(simp; omega)|exact ⟨by first|omega|(simp; omega),_,rfl,rfl⟩) ?_|refine Quo.l (And.intro (by first|exact rfl|assumption|omega|(simp; omega)) ?_)|refine Quo.r (And.intro (by omega) ?_)|refine Both.mk ?_ ?_|refine Exists.intro _ (And.intro rfl ?_)|refine fun _=>?_))|exact rfl)
  intro i hi
  repeat' (first|((conv=>whnf); (first|refine brK_dec (fun _=>?_) (fun _=>?_)|refine brK_ndec (fun _=>?_) (fun _=>?_)|refine brK_not (fun _=>?_) (fun _=>?_)|refine brK_in (fun _=>?_) (fun _=>?_)|refine And.intro (by first|exact rfl|exact ⟨_,rfl,rfl⟩|exact ⟨rfl,rfl,rfl⟩|exact of_decide_eq_true rfl|exact trivial|assumption|omega|(show (_ ≤ _ ∧ _ ≤ _); omega)|(simp; omega)|exact ⟨by first|omega|(simp; omega),_,rfl,rfl⟩) ?_|refine Quo.l (And.intro (by first|exact rfl|assumption|omega|(simp; omega)) ?_)|refine Quo.r (And.intro (by omega) ?_)|refine Both.mk ?_ ?_|refine Exists.intro _ (And.intro rfl ?_)|refine fun _=>?_))|exact rfl)
  · rename_i hil x hx
    refine ⟨i + 1, [0], by omega, by omega, ?_⟩
    repeat' (first|((conv=>whnf); (first|refine brK_dec (fun _=>?_) (fun _=>?_)|refine brK_ndec (fun _=>?_) (fun _=>?_)|refine brK_not (fun _=>?_) (fun _=>?_)|refine brK_in (fun _=>?_) (fun _=>?_)|refine And.intro (by first|exact rfl|exact (set_fill hx).symm|exact ⟨_,rfl,rfl⟩|exact ⟨rfl,rfl,rfl⟩|exact of_decide_eq_true rfl|exact trivial|assumption|omega|(show (_ ≤ _ ∧ _ ≤ _); omega)|(simp; omega)|exact ⟨by first|omega|(simp; omega),_,rfl,rfl⟩) ?_|refine Quo.l (And.intro (by first|exact rfl|exact (set_fill hx).symm|assumption|omega|(simp; omega)) ?_)|refine Quo.r (And.intro (by omega) ?_)|refine Both.mk ?_ ?_|refine Exists.intro _ (And.intro rfl ?_)|refine fun _=>?_))|exact rfl)
  · rename_i hil
    show K (.own 0) [.iarr _] []
    rw [List.take_of_length_le (by omega), show l.length - i = 0 by omega]
    simpa using h
def c_laws_toEpoch : Con := ⟨2, 0, false, fun xs hs _ K => match xs with
  | [.agg [.val (.int .i64 n), .ints c, .ints k, .val (.int .i64 r)]] => hs = [] ∧ c.length ≤ 1048576 ∧ k.length ≤ 1048576 ∧ K (.agg [I n, .own 0, .own 1, I r]) [.iarr c, .iarr k] []
  | _ => False⟩
def c_laws_eqIntS : Con := ⟨0, 0, false, fun xs hs _ K => match xs with
  | [.ints a, .ints b] => hs = [] ∧ a.length < 2000000 ∧ b.length < 2000000 ∧ K (B (decide (a = b))) [] []
  | _ => False⟩
theorem eq_take {a b : List Int} {i : Nat} {x y : Int} (h : a.take i = b.take i) (hx : a[i]? = some x) (hy : b[i]? = some y) (e : x = y) : a.take (i + 1) = b.take (i + 1) := by
  rw [List.take_add_one, List.take_add_one, h, hx, hy, e]
theorem k_laws_eqIntS : Keeps' Tryz.prog 20 c_laws_eqIntS := by
  refine keeps_of_vc mix TyT_ok cok_nil Tryz.func20 rfl rfl rfl ?_
  intro aargs hs Fs K h
  simp only [c_laws_eqIntS] at h
  split at h
  case h_2 => exact h.elim
  rename_i a b
  obtain ⟨rfl, ha, hb, h⟩ := h
  have no : ∀ {c : Bool}, decide (a = b) = c → K (B c) [] [] := fun e => by rw [← e]; exact h
  repeat' (first|((conv=>whnf); (first|refine brK_dec (fun _=>?_) (fun _=>?_)|refine brK_ndec (fun _=>?_) (fun _=>?_)|refine brK_not (fun _=>?_) (fun _=>?_)|refine brK_in (fun _=>?_) (fun _=>?_)|refine And.intro (by first|exact rfl|exact ⟨_,rfl,rfl⟩|exact ⟨rfl,rfl,rfl⟩|exact of_decide_eq_true rfl|exact trivial|assumption|omega|(show (_ ≤ _ ∧ _ ≤ _); omega)|(simp; omega)|exact ⟨by first|omega|(simp; omega),_,rfl,rfl⟩) ?_|refine Quo.l (And.intro (by first|exact rfl|assumption|omega|(simp; omega)) ?_)|refine Quo.r (And.intro (by omega) ?_)|refine Both.mk ?_ ?_|refine Exists.intro _ (And.intro rfl ?_)|refine fun _=>?_))|exact rfl)
  · rename_i h1
    exact no (by
      have : a ≠ b := by rintro rfl; exact h1 rfl
      simp [this])
  rename_i h1
  have hlen : a.length = b.length := by omega
  refine loop_in (ι := Nat) (fun i => mkS 26 [(0, .ints a), (1, .ints b), (4, B false), (5, I i)] [] Fs) (fun i => i ≤ a.length ∧ a.take i = b.take i) (fun i => a.length - i) 0 [] ⟨Nat.zero_le _, by simp⟩ ?_ ?_
  · repeat' (first|((conv=>whnf); (first|refine brK_dec (fun _=>?_) (fun _=>?_)|refine brK_ndec (fun _=>?_) (fun _=>?_)|refine brK_not (fun _=>?_) (fun _=>?_)|refine brK_in (fun _=>?_) (fun _=>?_)|refine And.intro (by first|exact rfl|exact ⟨_,rfl,rfl⟩|exact ⟨rfl,rfl,rfl⟩|exact of_decide_eq_true rfl|exact trivial|assumption|omega|(show (_ ≤ _ ∧ _ ≤ _); omega)|(simp; omega)|exact ⟨by first|omega|(simp; omega),_,rfl,rfl⟩) ?_|refine Quo.l (And.intro (by first|exact rfl|assumption|omega|(simp; omega)) ?_)|refine Quo.r (And.intro (by omega) ?_)|refine Both.mk ?_ ?_|refine Exists.intro _ (And.intro rfl ?_)|refine fun _=>?_))|exact rfl)
  intro i ⟨hi, hall⟩
  repeat' (first|((conv=>whnf); (first|refine draw_plan (id := 6) [] [] (.take 0 (.take 1 (.take 2 (.take 3 (.take 4 (.take 5 (.take 6 (.take 7 (.take 8 .done))))))))) (by kernel_rfl) (by kernel_rfl) ?_|refine brK_dec (fun _=>?_) (fun _=>?_)|refine brK_ndec (fun _=>?_) (fun _=>?_)|refine brK_not (fun _=>?_) (fun _=>?_)|refine brK_in (fun _=>?_) (fun _=>?_)|refine And.intro (by first|exact rfl|exact ⟨_,rfl,rfl⟩|exact ⟨rfl,rfl,rfl⟩|exact of_decide_eq_true rfl|exact trivial|assumption|omega|(show (_ ≤ _ ∧ _ ≤ _); omega)|(simp; omega)|exact ⟨by first|omega|(simp; omega),_,rfl,rfl⟩) ?_|refine Quo.l (And.intro (by first|exact rfl|assumption|omega|(simp; omega)) ?_)|refine Quo.r (And.intro (by omega) ?_)|refine Both.mk ?_ ?_|refine Exists.intro _ (And.intro rfl ?_)|refine fun _=>?_))|exact rfl)
  · rename_i hil x hx y hy e
    refine no ?_
    have : a ≠ b := by
      rintro rfl
      have hx' : a[i]? = some x := hx
      have hy' : a[i]? = some y := hy
      rw [hx'] at hy'
      exact e (Option.some.inj hy')
    simp [this]
  · rename_i hil x hx y hy e
    refine ⟨i + 1, [], ⟨by omega, eq_take hall hx hy (by simpa using e)⟩, by omega, ?_⟩
    repeat' (first|((conv=>whnf); (first|refine brK_dec (fun _=>?_) (fun _=>?_)|refine brK_ndec (fun _=>?_) (fun _=>?_)|refine brK_not (fun _=>?_) (fun _=>?_)|refine brK_in (fun _=>?_) (fun _=>?_)|refine And.intro (by first|exact rfl|exact ⟨_,rfl,rfl⟩|exact ⟨rfl,rfl,rfl⟩|exact of_decide_eq_true rfl|exact trivial|assumption|omega|(show (_ ≤ _ ∧ _ ≤ _); omega)|(simp; omega)|exact ⟨by first|omega|(simp; omega),_,rfl,rfl⟩) ?_|refine Quo.l (And.intro (by first|exact rfl|assumption|omega|(simp; omega)) ?_)|refine Quo.r (And.intro (by omega) ?_)|refine Both.mk ?_ ?_|refine Exists.intro _ (And.intro rfl ?_)|refine fun _=>?_))|exact rfl)
  · rename_i hil
    rw [List.take_of_length_le (by omega), List.take_of_length_le (by omega)] at hall
    exact no (by simp [hall])
def c_laws_eqEpoch : Con := ⟨0, 0, false, fun xs hs _ K => match xs with
  | [.agg [.val (.int .i64 n), .ints c, .ints k, .val (.int .i64 r)], .agg [.val (.int .i64 n'), .ints c', .ints k', .val (.int .i64 r')]] =>
    hs = [] ∧ c.length < 2000000 ∧ k.length < 2000000 ∧ c'.length < 2000000 ∧ k'.length < 2000000 ∧ K (B (decide (n = n' ∧ c = c' ∧ k = k' ∧ r = r'))) [] []
  | _ => False⟩
end Go.Proofs.YtkabnbjlglippaaGreatDoor
namespace Go.Proofs.YtkabnbjlglippaaGreatDoor
open Go Go.Vc
set_option maxHeartbeats 2000000
set_option maxRecDepth 10000
def VxD.big (x : VxD) : Prop := x.p.length ≤ 9223372036854775807
def VxD.mid (x : VxD) : Prop := x.p.length ≤ 1048576
theorem vxs_at {g : List VxD} {i : Nat} {e : List AV} (h : (g.map VxD.row)[i]? = some e) : ∃ x, g[i]? = some x ∧ e = x.row := by
  rw [List.getElem?_map] at h
  obtain ⟨x, hx, rfl⟩ := Option.map_eq_some_iff.1 h
  exact ⟨x, hx, rfl⟩
theorem vx_take_one {g : List VxD} {i : Nat} {x : VxD} {p : VxD → Prop} (h : ∀ y ∈ g.take i, p y) (hx : g[i]? = some x) (hp : p x) : ∀ y ∈ g.take (i + 1), p y := by
  intro y hy
  rw [List.take_add_one, hx] at hy
  rcases List.mem_append.1 hy with hy | hy
  · exact h y hy
  · simp at hy
    rw [hy]; exact hp
def c_laws_szVertex : Con := ⟨0, 0, false, fun xs hs _ K => match xs with
  | [.agg [.val (.int .i64 _), .val (.int .i64 _), .ints p, .val (.int .i64 _)], .val (.int .i64 n)] => hs = [] ∧ p.length ≤ 9223372036854775807 ∧ 0 ≤ n ∧ n ≤ 1048576 ∧ K (I (szI p n)) [] []
  | _ => False⟩
theorem k_laws_szVertex : Keeps' Tryz.prog 48 c_laws_szVertex := by
  refine keeps_of_vc mix TyT_ok (cok_cons k_laws_szIntS Tryz.func77 rfl rfl cok_nil) Tryz.func48 rfl rfl rfl ?_
  intro aargs hs Fs K h
  simp only [c_laws_szVertex] at h
  split at h
  case h_2 => exact h.elim
  rename_i r a p d n
  obtain ⟨rfl, hp, h0, h1, h⟩ := h
  have no : ∀ {b : Int}, szI p n = b → K (I b) [] [] := fun e => by rw [← e]; exact h
  repeat' (first|((conv=>whnf); (first|refine brK_dec (fun _=>?_) (fun _=>?_)|refine brK_ndec (fun _=>?_) (fun _=>?_)|refine brK_not (fun _=>?_) (fun _=>?_)|refine brK_in (fun _=>?_) (fun _=>?_)|refine And.intro (by first|exact rfl|exact ⟨_,rfl,rfl⟩|exact ⟨rfl,rfl,rfl⟩|exact of_decide_eq_true rfl|exact trivial|assumption|omega|(show (_ ≤ _ ∧ _ ≤ _); omega)|(simp; omega)|exact ⟨by first|omega|(simp; omega),_,rfl,rfl⟩) ?_|refine Quo.l (And.intro (by first|exact rfl|assumption|omega|(simp; omega)) ?_)|refine Quo.r (And.intro (by omega) ?_)|refine Both.mk ?_ ?_|refine Exists.intro _ (And.intro rfl ?_)|refine fun _=>?_))|exact rfl)
  · rename_i h2
    exact no (szI_neg h2)
  · exact h
def c_laws_szVertexS : Con := ⟨0, 0, false, fun xs hs _ K => match xs with
  | [.sl 4 rows, .val (.int .i64 n)] => hs = [] ∧ ∃ g : List VxD, rows = g.map VxD.row ∧ (∀ x ∈ g, x.big) ∧ g.length ≤ 9223372036854775807 ∧ 0 ≤ n ∧ n ≤ 1048576 ∧
    ∀ v, v ≤ n → (0 ≤ v → g.length ≤ 1048576 ∧ ∀ x ∈ g, x.mid) → K (I v) [] []
  | _ => False⟩
theorem k_laws_szVertexS : Keeps' Tryz.prog 15 c_laws_szVertexS := by
  refine keeps_of_vc mix TyT_ok (cok_cons k_laws_szVertex Tryz.func48 rfl rfl cok_nil) Tryz.func15 rfl rfl rfl ?_
  intro aargs hs Fs K h
  simp only [c_laws_szVertexS] at h
  split at h
  case h_2 => exact h.elim
  rename_i rows n
  obtain ⟨rfl, g, rfl, hbig, hl, h0, h1, h⟩ := h
  have hlen : (g.map VxD.row).length = g.length := by simp
  repeat' (first|((conv=>whnf); (first|refine brK_dec (fun _=>?_) (fun _=>?_)|refine brK_ndec (fun _=>?_) (fun _=>?_)|refine brK_not (fun _=>?_) (fun _=>?_)|refine brK_in (fun _=>?_) (fun _=>?_)|refine And.intro (by first|exact rfl|exact ⟨_,rfl,rfl⟩|exact ⟨rfl,rfl,rfl⟩|exact of_decide_eq_true rfl|exact trivial|assumption|omega|(show (_ ≤ _ ∧ _ ≤ _); omega)|(simp; omega)|exact ⟨by first|omega|(simp; omega),_,rfl,rfl⟩) ?_|refine Quo.l (And.intro (by first|exact rfl|assumption|omega|(simp; omega)) ?_)|refine Quo.r (And.intro (by omega) ?_)|refine Both.mk ?_ ?_|refine Exists.intro _ (And.intro rfl ?_)|refine fun _=>?_))|exact rfl)
  · exact h _ (by omega) (by omega)
  rename_i hn
  refine loop_in (ι := Nat × Int) (fun t => mkS 27 [(0, .sl 4 (g.map VxD.row)), (1, I t.2), (4, I 0), (5, I t.1)] [] Fs) (fun t => t.1 ≤ g.length ∧ 0 ≤ t.2 ∧ t.2 ≤ n ∧ ∀ x ∈ g.take t.1, x.mid) (fun t => g.length - t.1) (0, n - (g.map VxD.row).length) [] ⟨Nat.zero_le _, by dsimp only; omega, by dsimp only; omega, by simp⟩ ?_ ?_
  · repeat' (first|((conv=>whnf); (first|refine brK_dec (fun _=>?_) (fun _=>?_)|refine brK_ndec (fun _=>?_) (fun _=>?_)|refine brK_not (fun _=>?_) (fun _=>?_)|refine brK_in (fun _=>?_) (fun _=>?_)|refine And.intro (by first|exact rfl|exact ⟨_,rfl,rfl⟩|exact ⟨rfl,rfl,rfl⟩|exact of_decide_eq_true rfl|exact trivial|assumption|omega|(show (_ ≤ _ ∧ _ ≤ _); omega)|(simp; omega)|exact ⟨by first|omega|(simp; omega),_,rfl,rfl⟩) ?_|refine Quo.l (And.intro (by first|exact rfl|assumption|omega|(simp; omega)) ?_)|refine Quo.r (And.intro (by omega) ?_)|refine Both.mk ?_ ?_|refine Exists.intro _ (And.intro rfl ?_)|refine fun _=>?_))|exact rfl)
  rintro ⟨i, q⟩ ⟨hi, hq0, hq1, hall⟩
  dsimp only at hi hq0 hq1 hall ⊢
  repeat' (first|((conv=>whnf); (first|refine brK_dec (fun _=>?_) (fun _=>?_)|refine brK_ndec (fun _=>?_) (fun _=>?_)|refine brK_not (fun _=>?_) (fun _=>?_)|refine brK_in (fun _=>?_) (fun _=>?_)|refine And.intro (by first|exact rfl|exact ⟨_,rfl,rfl⟩|exact ⟨rfl,rfl,rfl⟩|exact of_decide_eq_true rfl|exact trivial|assumption|omega|(show (_ ≤ _ ∧ _ ≤ _); omega)|(simp; omega)|exact ⟨by first|omega|(simp; omega),_,rfl,rfl⟩) ?_|refine Quo.l (And.intro (by first|exact rfl|assumption|omega|(simp; omega)) ?_)|refine Quo.r (And.intro (by omega) ?_)|refine Both.mk ?_ ?_|refine Exists.intro _ (And.intro rfl ?_)|refine fun _=>?_))|exact rfl)
  · rename_i hil e he
    obtain ⟨x, hx, rfl⟩ := vxs_at he
    have hx : g[i]? = some x := hx
    have hb : x.p.length ≤ 9223372036854775807 := hbig x (List.mem_of_getElem? hx)
    repeat' (first|((conv=>whnf); (first|refine brK_dec (fun _=>?_) (fun _=>?_)|refine brK_ndec (fun _=>?_) (fun _=>?_)|refine brK_not (fun _=>?_) (fun _=>?_)|refine brK_in (fun _=>?_) (fun _=>?_)|refine And.intro (by first|exact rfl|exact ⟨_,rfl,rfl⟩|exact ⟨rfl,rfl,rfl⟩|exact of_decide_eq_true rfl|exact trivial|assumption|omega|(show (_ ≤ _ ∧ _ ≤ _); omega)|(simp; omega)|exact ⟨by first|omega|(simp; omega),_,rfl,rfl⟩) ?_|refine Quo.l (And.intro (by first|exact rfl|assumption|omega|(simp; omega)) ?_)|refine Quo.r (And.intro (by omega) ?_)|refine Both.mk ?_ ?_|refine Exists.intro _ (And.intro rfl ?_)|refine fun _=>?_))|exact rfl)
    · exact h _ (by omega) (by omega)
    · rename_i hz
      have hle := szI_le (l := x.p) (n := q) (by omega)
      refine ⟨(i + 1, szI x.p q), [], ⟨by dsimp only; omega, by dsimp only; omega, by dsimp only; omega, vx_take_one hall hx (by show _ ≤ _; omega)⟩, by dsimp only; omega, ?_⟩
      repeat' (first|((conv=>whnf); (first|refine brK_dec (fun _=>?_) (fun _=>?_)|refine brK_ndec (fun _=>?_) (fun _=>?_)|refine brK_not (fun _=>?_) (fun _=>?_)|refine brK_in (fun _=>?_) (fun _=>?_)|refine And.intro (by first|exact rfl|exact ⟨_,rfl,rfl⟩|exact ⟨rfl,rfl,rfl⟩|exact of_decide_eq_true rfl|exact trivial|assumption|omega|(show (_ ≤ _ ∧ _ ≤ _); omega)|(simp; omega)|exact ⟨by first|omega|(simp; omega),_,rfl,rfl⟩) ?_|refine Quo.l (And.intro (by first|exact rfl|assumption|omega|(simp; omega)) ?_)|refine Quo.r (And.intro (by omega) ?_)|refine Both.mk ?_ ?_|refine Exists.intro _ (And.intro rfl ?_)|refine fun _=>?_))|exact rfl)
  · rename_i hil
    rw [List.take_of_length_le (by omega)] at hall
    exact h _ hq1 (fun _ => ⟨by omega, hall⟩)
def c_laws_toVertex : Con := ⟨1, 0, false, fun xs hs _ K => match xs with
  | [.agg [.val (.int .i64 r), .val (.int .i64 a), .ints p, .val (.int .i64 d)]] => hs = [] ∧ p.length ≤ 1048576 ∧ K (.agg [I r, I a, .own 0, I d]) [.iarr p] []
  | _ => False⟩
theorem k_laws_toVertex : Keeps' Tryz.prog 51 c_laws_toVertex := by
  refine keeps_of_vc mix TyT_ok (cok_cons k_laws_toIntS Tryz.func17 rfl rfl cok_nil) Tryz.func51 rfl rfl rfl ?_
  intro aargs hs Fs K h
  simp only [c_laws_toVertex] at h
  split at h
  case h_2 => exact h.elim
  rename_i r a p d
  obtain ⟨rfl, hp, h⟩ := h
  repeat' (first|((conv=>whnf); (first|refine brK_dec (fun _=>?_) (fun _=>?_)|refine brK_ndec (fun _=>?_) (fun _=>?_)|refine brK_not (fun _=>?_) (fun _=>?_)|refine brK_in (fun _=>?_) (fun _=>?_)|refine And.intro (by first|exact rfl|exact ⟨_,rfl,rfl⟩|exact ⟨rfl,rfl,rfl⟩|exact of_decide_eq_true rfl|exact trivial|assumption|omega|(show (_ ≤ _ ∧ _ ≤ _); omega)|(simp; omega)|exact ⟨by first|omega|(simp; omega),_,rfl,rfl⟩) ?_|refine Quo.l (And.intro (by first|exact rfl|assumption|omega|(simp; omega)) ?_)|refine Quo.r (And.intro (by omega) ?_)|refine Both.mk ?_ ?_|refine Exists.intro _ (And.intro rfl ?_)|refine fun _=>?_))|exact rfl)
  exact h
def vzrow : List AV := [I 0, I 0, .val (.slice none 0 0), I 0]
def vxTo (g : List VxD) (i : Nat) : List (List AV) := (g.take i).map VxD.row ++ List.replicate (g.length - i) vzrow
theorem vxTo_at {g : List VxD} {i : Nat} {e : List AV} (hi : i < g.length) (h : (vxTo g i)[i]? = some e) : e = vzrow := by
  unfold vxTo at h
  have e1 : ((g.take i).map VxD.row).length = i := by simp; omega
  rw [List.getElem?_append_right (by omega), e1, Nat.sub_self, List.getElem?_replicate] at h
  split at h
  · exact (Option.some.inj h).symm
  · cases h
theorem vxTo_set {g : List VxD} {i : Nat} {x : VxD} (hx : g[i]? = some x) : (vxTo g i).set i x.row = vxTo g (i + 1) := by
  obtain ⟨hi, _⟩ := List.getElem?_eq_some_iff.1 hx
  have e : g.length - i = (g.length - (i + 1)) + 1 := by omega
  have e1 : ((g.take i).map VxD.row).length = i := by simp; omega
  unfold vxTo
  rw [List.set_append, if_neg (by omega), List.take_add_one, hx, e, List.replicate_succ, e1]
  simp
theorem vxTo_len {g : List VxD} {i : Nat} (hi : i ≤ g.length) : (vxTo g i).length = g.length := by
  unfold vxTo
  simp
  omega
theorem vxTo_all (g : List VxD) : vxTo g g.length = g.map VxD.row := by
  simp [vxTo]
theorem vxTo_zero (g : List VxD) (n : Nat) (h : n = g.length) : vxTo g 0 = List.replicate n vzrow := by
  simp [vxTo, h]
def c_laws_toVertexS : Con := ⟨1, 0, true, fun xs hs _ K => match xs with
  | [.sl 4 rows] => hs = [] ∧ ∃ g : List VxD, rows = g.map VxD.row ∧ (∀ x ∈ g, x.mid) ∧ g.length ≤ 1048576 ∧ K (.own 0) [.arr 4 (g.map VxD.row)] []
  | _ => False⟩
theorem k_laws_toVertexS : Keeps' Tryz.prog 18 c_laws_toVertexS := by
  refine keeps_of_vc mix TyT_ok (cok_cons k_laws_toVertex Tryz.func51 rfl rfl cok_nil) Tryz.func18 rfl rfl rfl ?_
  intro aargs hs Fs K h
  simp only [c_laws_toVertexS] at h
  split at h
  case h_2 => exact h.elim
  rename_i rows
  obtain ⟨rfl, g, rfl, hmid, hl, h⟩ := h
  have hlen : (g.map VxD.row).length = g.length := by simp
  repeat' (first|((conv=>whnf); (first|refine brK_dec (fun _=>?_) (fun _=>?_)|refine brK_ndec (fun _=>?_) (fun _=>?_)|refine brK_not (fun _=>?_) (fun _=>?_)|refine brK_in (fun _=>?_) (fun _=>?_)|refine And.intro (by first|exact rfl|exact ⟨_,rfl,rfl⟩|exact ⟨rfl,rfl,rfl⟩|exact of_decide_eq_true rfl|exact trivial|assumption|omega|(show (_ ≤ _ ∧ _ ≤ _); omega)|(simp; omega)|exact ⟨by first|omega|(simp; omega),_,rfl,rfl⟩) ?_|refine Quo.l (And.intro (by first|exact rfl|assumption|omega|(simp; omega)) ?_)|refine Quo.r (And.intro (by omega) ?_)|refine Both.mk ?_ ?_|refine Exists.intro _ (And.intro rfl ?_)|refine fun _=>?_))|exact rfl)
  refine loop_in (ι := Nat) (fun i => mkS 23 [(0, .sl 4 (g.map VxD.row)), (2, .val (.slice none 0 0)), (3, .own 0), (4, I i)] [.arr 4 (vxTo g i)] Fs) (fun i => i ≤ g.length) (fun i => g.length - i) 0 [0] (Nat.zero_le _) ?_ ?_
  · repeat' (first|((conv=>whnf); (first|refine brK_dec (fun _=>?_) (fun _=>?_)|refine brK_ndec (fun _=>?_) (fun _=>?_)|refine brK_not (fun _=>?_) (fun _=>?_)|refine brK_in (fun _=>?_) (fun _=>?_)|refine And.intro (by first|exact rfl|exact (vxTo_zero g _ (by simp))|exact ⟨_,rfl,rfl⟩|exact ⟨rfl,rfl,rfl⟩|exact of_decide_eq_true rfl|exact trivial|assumption|omega|(show (_ ≤ _ ∧ _ ≤ _); omega)|(simp; omega)|exact ⟨by first|omega|(simp; omega),_,rfl,rfl⟩) ?_|refine Quo.l (And.intro (by first|exact rfl|exact (vxTo_zero g _ (by simp))|assumption|omega|(simp; omega)) ?_)|refine Quo.r (And.intro (by omega) ?_)|refine Both.mk ?_ ?_|refine Exists.intro _ (And.intro rfl ?_)|refine fun _=>?_))|exact rfl)
  intro i hi
  have hrl := vxTo_len hi
  repeat' (first|((conv=>whnf); (first|refine brK_dec (fun _=>?_) (fun _=>?_)|refine brK_ndec (fun _=>?_) (fun _=>?_)|refine brK_not (fun _=>?_) (fun _=>?_)|refine brK_in (fun _=>?_) (fun _=>?_)|refine And.intro (by first|exact rfl|exact ⟨_,rfl,rfl⟩|exact ⟨rfl,rfl,rfl⟩|exact of_decide_eq_true rfl|exact trivial|assumption|omega|(show (_ ≤ _ ∧ _ ≤ _); omega)|(simp; omega)|exact ⟨by first|omega|(simp; omega),_,rfl,rfl⟩) ?_|refine Quo.l (And.intro (by first|exact rfl|assumption|omega|(simp; omega)) ?_)|refine Quo.r (And.intro (by omega) ?_)|refine Both.mk ?_ ?_|refine Exists.intro _ (And.intro rfl ?_)|refine fun _=>?_))|exact rfl)
  · rename_i hil e he
    obtain ⟨x, hx, rfl⟩ := vxs_at he
    have hx : g[i]? = some x := hx
    have hb : x.p.length ≤ 1048576 := hmid x (List.mem_of_getElem? hx)
    repeat' (first|((conv=>whnf); (first|refine brK_dec (fun _=>?_) (fun _=>?_)|refine brK_ndec (fun _=>?_) (fun _=>?_)|refine brK_not (fun _=>?_) (fun _=>?_)|refine brK_in (fun _=>?_) (fun _=>?_)|refine And.intro (by first|exact rfl|exact ⟨_,rfl,rfl⟩|exact ⟨rfl,rfl,rfl⟩|exact of_decide_eq_true rfl|exact trivial|assumption|omega|(show (_ ≤ _ ∧ _ ≤ _); omega)|(simp; omega)|exact ⟨by first|omega|(simp; omega),_,rfl,rfl⟩) ?_|refine Quo.l (And.intro (by first|exact rfl|assumption|omega|(simp; omega)) ?_)|refine Quo.r (And.intro (by omega) ?_)|refine Both.mk ?_ ?_|refine Exists.intro _ (And.intro rfl ?_)|refine fun _=>?_))|exact rfl)
    rename_i e he2
    have he2 : (vxTo g i)[i]? = some e := he2
    obtain rfl := vxTo_at (by omega) he2
    refine ⟨i + 1, [0], by omega, by omega, ?_⟩
    repeat' (first|((conv=>whnf); (first|refine brK_dec (fun _=>?_) (fun _=>?_)|refine brK_ndec (fun _=>?_) (fun _=>?_)|refine brK_not (fun _=>?_) (fun _=>?_)|refine brK_in (fun _=>?_) (fun _=>?_)|refine And.intro (by first|exact rfl|exact ((vxTo_set hx).symm)|exact ⟨_,rfl,rfl⟩|exact ⟨rfl,rfl,rfl⟩|exact of_decide_eq_true rfl|exact trivial|assumption|omega|(show (_ ≤ _ ∧ _ ≤ _); omega)|(simp; omega)|exact ⟨by first|omega|(simp; omega),_,rfl,rfl⟩) ?_|refine Quo.l (And.intro (by first|exact rfl|exact ((vxTo_set hx).symm)|assumption|omega|(simp; omega)) ?_)|refine Quo.r (And.intro (by omega) ?_)|refine Both.mk ?_ ?_|refine Exists.intro _ (And.intro rfl ?_)|refine fun _=>?_))|exact rfl)
  · rename_i hil
    have e : i = g.length := by omega
    subst e
    rw [vxTo_all]
    exact h
def c_laws_eqVertex : Con := ⟨0, 0, false, fun xs hs _ K => match xs with
  | [.agg [.val (.int .i64 r), .val (.int .i64 a), .ints p, .val (.int .i64 d)], .agg [.val (.int .i64 r'), .val (.int .i64 a'), .ints p', .val (.int .i64 d')]] => hs = [] ∧ r = r' ∧ a = a' ∧ p = p' ∧ d = d' ∧ p.length < 2000000 ∧ K (B true) [] []
  | _ => False⟩
theorem k_laws_eqVertex : Keeps' Tryz.prog 54 c_laws_eqVertex := by
  refine keeps_of_vc mix TyT_ok (cok_cons k_laws_eqIntS Tryz.func20 rfl rfl cok_nil) Tryz.func54 rfl rfl rfl ?_
  intro aargs hs Fs K h
  simp only [c_laws_eqVertex] at h
  split at h
  case h_2 => exact h.elim
  rename_i r a p d r' a' p' d'
  obtain ⟨rfl, rfl, rfl, rfl, rfl, hp, h⟩ := h
  repeat' (first|((conv=>whnf); (first|refine brK_dec (fun _=>?_) (fun _=>?_)|refine brK_ndec (fun _=>?_) (fun _=>?_)|refine brK_not (fun _=>?_) (fun _=>?_)|refine brK_in (fun _=>?_) (fun _=>?_)|refine And.intro (by first|exact rfl|exact ⟨_,rfl,rfl⟩|exact ⟨rfl,rfl,rfl⟩|exact of_decide_eq_true rfl|exact trivial|assumption|omega|(show (_ ≤ _ ∧ _ ≤ _); omega)|(simp; omega)|exact ⟨by first|omega|(simp; omega),_,rfl,rfl⟩) ?_|refine Quo.l (And.intro (by first|exact rfl|assumption|omega|(simp; omega)) ?_)|refine Quo.r (And.intro (by omega) ?_)|refine Both.mk ?_ ?_|refine Exists.intro _ (And.intro rfl ?_)|refine fun _=>?_))|exact rfl)
  all_goals first
    | exact h
    | (rename_i e; exact absurd rfl e)
def c_laws_eqVertexS : Con := ⟨0, 0, false, fun xs hs _ K => match xs with
  | [.sl 4 a, .sl 4 b] => hs = [] ∧ a = b ∧ ∃ g : List VxD, a = g.map VxD.row ∧ (∀ x ∈ g, x.p.length < 2000000) ∧ g.length < 2000000 ∧ K (B true) [] []
  | _ => False⟩
theorem k_laws_eqVertexS : Keeps' Tryz.prog 21 c_laws_eqVertexS := by
  refine keeps_of_vc mix TyT_ok (cok_cons k_laws_eqVertex Tryz.func54 rfl rfl cok_nil) Tryz.func21 rfl rfl rfl ?_
  intro aargs hs Fs K h
  simp only [c_laws_eqVertexS] at h
  split at h
  case h_2 => exact h.elim
  rename_i a b
  obtain ⟨rfl, rfl, g, rfl, hsm, hl, h⟩ := h
  have hlen : (g.map VxD.row).length = g.length := by simp
  repeat' (first|((conv=>whnf); (first|refine draw_plan (id := 6) [] [] (.take 0 (.take 1 (.take 2 (.take 3 (.take 4 (.take 5 (.take 6 (.take 7 (.run 8 (.take 9 .done)))))))))) (by kernel_rfl) (by kernel_rfl) ?_|refine brK_dec (fun _=>?_) (fun _=>?_)|refine brK_ndec (fun _=>?_) (fun _=>?_)|refine brK_not (fun _=>?_) (fun _=>?_)|refine brK_in (fun _=>?_) (fun _=>?_)|refine And.intro (by first|exact rfl|exact ⟨_,rfl,rfl⟩|exact ⟨rfl,rfl,rfl⟩|exact of_decide_eq_true rfl|exact trivial|assumption|omega|(show (_ ≤ _ ∧ _ ≤ _); omega)|(simp; omega)|exact ⟨by first|omega|(simp; omega),_,rfl,rfl⟩) ?_|refine Quo.l (And.intro (by first|exact rfl|assumption|omega|(simp; omega)) ?_)|refine Quo.r (And.intro (by omega) ?_)|refine Both.mk ?_ ?_|refine Exists.intro _ (And.intro rfl ?_)|refine fun _=>?_))|exact rfl)
  · rename_i q
    exact absurd rfl q
  refine loop_in (ι := Nat) (fun i => mkS 27 [(0, .sl 4 (g.map VxD.row)), (1, .sl 4 (g.map VxD.row)), (4, B false), (5, I i)] [] Fs) (fun i => i ≤ g.length) (fun i => g.length - i) 0 [] (Nat.zero_le _) ?_ ?_
  · repeat' (first|((conv=>whnf); (first|refine brK_dec (fun _=>?_) (fun _=>?_)|refine brK_ndec (fun _=>?_) (fun _=>?_)|refine brK_not (fun _=>?_) (fun _=>?_)|refine brK_in (fun _=>?_) (fun _=>?_)|refine And.intro (by first|exact rfl|exact ⟨_,rfl,rfl⟩|exact ⟨rfl,rfl,rfl⟩|exact of_decide_eq_true rfl|exact trivial|assumption|omega|(show (_ ≤ _ ∧ _ ≤ _); omega)|(simp; omega)|exact ⟨by first|omega|(simp; omega),_,rfl,rfl⟩) ?_|refine Quo.l (And.intro (by first|exact rfl|assumption|omega|(simp; omega)) ?_)|refine Quo.r (And.intro (by omega) ?_)|refine Both.mk ?_ ?_|refine Exists.intro _ (And.intro rfl ?_)|refine fun _=>?_))|exact rfl)
  intro i hi
  repeat' (first|((conv=>whnf); (first|refine draw_plan (id := 6) [] [] (.take 0 (.take 1 (.take 2 (.take 3 (.take 4 (.take 5 (.take 6 (.take 7 (.run 8 (.take 9 .done)))))))))) (by kernel_rfl) (by kernel_rfl) ?_|refine brK_dec (fun _=>?_) (fun _=>?_)|refine brK_ndec (fun _=>?_) (fun _=>?_)|refine brK_not (fun _=>?_) (fun _=>?_)|refine brK_in (fun _=>?_) (fun _=>?_)|refine And.intro (by first|exact rfl|exact ⟨_,rfl,rfl⟩|exact ⟨rfl,rfl,rfl⟩|exact of_decide_eq_true rfl|exact trivial|assumption|omega|(show (_ ≤ _ ∧ _ ≤ _); omega)|(simp; omega)|exact ⟨by first|omega|(simp; omega),_,rfl,rfl⟩) ?_|refine Quo.l (And.intro (by first|exact rfl|assumption|omega|(simp; omega)) ?_)|refine Quo.r (And.intro (by omega) ?_)|refine Both.mk ?_ ?_|refine Exists.intro _ (And.intro rfl ?_)|refine fun _=>?_))|exact rfl)
  · rename_i hil e he
    obtain ⟨x, hx, rfl⟩ := vxs_at he
    have hx : g[i]? = some x := hx
    have hb := hsm x (List.mem_of_getElem? hx)
    repeat' (first|((conv=>whnf); (first|refine draw_plan (id := 6) [] [] (.take 0 (.take 1 (.take 2 (.take 3 (.take 4 (.take 5 (.take 6 (.take 7 (.run 8 (.take 9 .done)))))))))) (by kernel_rfl) (by kernel_rfl) ?_|refine brK_dec (fun _=>?_) (fun _=>?_)|refine brK_ndec (fun _=>?_) (fun _=>?_)|refine brK_not (fun _=>?_) (fun _=>?_)|refine brK_in (fun _=>?_) (fun _=>?_)|refine And.intro (by first|exact rfl|exact ⟨_,rfl,rfl⟩|exact ⟨rfl,rfl,rfl⟩|exact of_decide_eq_true rfl|exact trivial|assumption|omega|(show (_ ≤ _ ∧ _ ≤ _); omega)|(simp; omega)|exact ⟨by first|omega|(simp; omega),_,rfl,rfl⟩) ?_|refine Quo.l (And.intro (by first|exact rfl|assumption|omega|(simp; omega)) ?_)|refine Quo.r (And.intro (by omega) ?_)|refine Both.mk ?_ ?_|refine Exists.intro _ (And.intro rfl ?_)|refine fun _=>?_))|exact rfl)
    rename_i e he2
    obtain ⟨y, hy, rfl⟩ := vxs_at he2
    have hy : g[i]? = some y := hy
    obtain rfl : x = y := Option.some.inj (hx.symm.trans hy)
    repeat' (first|((conv=>whnf); (first|refine draw_plan (id := 6) [] [] (.take 0 (.take 1 (.take 2 (.take 3 (.take 4 (.take 5 (.take 6 (.take 7 (.run 8 (.take 9 .done)))))))))) (by kernel_rfl) (by kernel_rfl) ?_|refine brK_dec (fun _=>?_) (fun _=>?_)|refine brK_ndec (fun _=>?_) (fun _=>?_)|refine brK_not (fun _=>?_) (fun _=>?_)|refine brK_in (fun _=>?_) (fun _=>?_)|refine And.intro (by first|exact rfl|exact ⟨_,rfl,rfl⟩|exact ⟨rfl,rfl,rfl⟩|exact of_decide_eq_true rfl|exact trivial|assumption|omega|(show (_ ≤ _ ∧ _ ≤ _); omega)|(simp; omega)|exact ⟨by first|omega|(simp; omega),_,rfl,rfl⟩) ?_|refine Quo.l (And.intro (by first|exact rfl|assumption|omega|(simp; omega)) ?_)|refine Quo.r (And.intro (by omega) ?_)|refine Both.mk ?_ ?_|refine Exists.intro _ (And.intro rfl ?_)|refine fun _=>?_))|exact rfl)
    refine ⟨i + 1, [], by omega, by omega, ?_⟩
    repeat' (first|((conv=>whnf); (first|refine brK_dec (fun _=>?_) (fun _=>?_)|refine brK_ndec (fun _=>?_) (fun _=>?_)|refine brK_not (fun _=>?_) (fun _=>?_)|refine brK_in (fun _=>?_) (fun _=>?_)|refine And.intro (by first|exact rfl|exact ⟨_,rfl,rfl⟩|exact ⟨rfl,rfl,rfl⟩|exact of_decide_eq_true rfl|exact trivial|assumption|omega|(show (_ ≤ _ ∧ _ ≤ _); omega)|(simp; omega)|exact ⟨by first|omega|(simp; omega),_,rfl,rfl⟩) ?_|refine Quo.l (And.intro (by first|exact rfl|assumption|omega|(simp; omega)) ?_)|refine Quo.r (And.intro (by omega) ?_)|refine Both.mk ?_ ?_|refine Exists.intro _ (And.intro rfl ?_)|refine fun _=>?_))|exact rfl)
  · exact h
def c_laws_toSlot : Con := ⟨0, 0, false, fun xs hs _ K => match xs with
  | [.agg [.val (.int .i64 r), .val (.int .i64 a)]] => hs = [] ∧ K (.agg [I r, I a]) [] []
  | _ => False⟩
end Go.Proofs.YtkabnbjlglippaaGreatDoor
namespace Go.Proofs.YtkabnbjlglippaaGreatDoor
open Go Go.Vc
set_option maxHeartbeats 2000000
set_option maxRecDepth 10000
def VxD.rowZ (v : VxD) : List AV := [I v.r, I v.a, .zsl 1 (icells v.p), I v.d]
theorem zs_rows (g : List VxD) : ZS (.zsl 4 (g.map VxD.rowZ)) (.sl 4 (g.map VxD.row)) := zs_sl (by simp) fun i e e' he he' => by
  rw [List.getElem?_map] at he he'
  obtain ⟨v, hv, rfl⟩ := Option.map_eq_some_iff.1 he
  rw [hv] at he'
  cases he'
  refine ⟨rfl, fun j a a' ha ha' => ?_⟩
  match j, ha, ha' with
  | 0, ha, ha' => cases ha; cases ha'; exact ⟨rfl, zs_refl _⟩
  | 1, ha, ha' => cases ha; cases ha'; exact ⟨rfl, zs_refl _⟩
  | 2, ha, ha' => cases ha; cases ha'; exact ⟨rfl, zs_ints _⟩
  | 3, ha, ha' => cases ha; cases ha'; exact ⟨rfl, zs_refl _⟩
  | j + 4, ha, ha' => simp [VxD.rowZ] at ha
def c_z_szVertexS : Con := ⟨0, 0, false, fun xs hs _ K => match xs with
  | [.zsl 4 rows, .val (.int .i64 n)] => hs = [] ∧ ∃ g : List VxD, rows = g.map VxD.rowZ ∧ (∀ x ∈ g, x.big) ∧ g.length ≤ 9223372036854775807 ∧ 0 ≤ n ∧ n ≤ 1048576 ∧
    ∀ v, v ≤ n → (0 ≤ v → g.length ≤ 1048576 ∧ ∀ x ∈ g, x.mid) → K (I v) [] []
  | _ => False⟩
theorem k_laws_szVertexS_n : Keeps' Tryz.prog 15 c_z_szVertexS := keeps_z k_laws_szVertexS rfl rfl rfl fun xs hs Fs K h => by
  simp only [c_z_szVertexS] at h
  split at h
  case h_2 => exact h.elim
  rename_i rows n
  obtain ⟨rfl, g, rfl, h⟩ := h
  exact ⟨[.sl 4 (g.map VxD.row), I n], ⟨rfl, g, rfl, h⟩, zs_rows g, zs_refl _, trivial⟩
def c_z_toIntS : Con := ⟨1, 0, false, fun xs hs _ K => match xs with
  | [.zsl 1 rows] => hs = [] ∧ ∃ l, rows = icells l ∧ l.length ≤ 1048576 ∧ K (.own 0) [.iarr l] []
  | _ => False⟩
theorem k_laws_toIntS_n : Keeps' Tryz.prog 17 c_z_toIntS := keeps_z k_laws_toIntS rfl rfl rfl fun xs hs Fs K h => by
  simp only [c_z_toIntS] at h
  split at h
  case h_2 => exact h.elim
  obtain ⟨rfl, l, rfl, h⟩ := h
  exact ⟨[.ints l], ⟨rfl, h⟩, zs_ints l, trivial⟩
def c_z_toVertex : Con := ⟨1, 0, false, fun xs hs _ K => match xs with
  | [.agg [.val (.int .i64 r), .val (.int .i64 a), .zsl 1 rows, .val (.int .i64 d)]] => hs = [] ∧ ∃ p, rows = icells p ∧ p.length ≤ 1048576 ∧ K (.agg [I r, I a, .own 0, I d]) [.iarr p] []
  | _ => False⟩
theorem k_laws_toVertex_n : Keeps' Tryz.prog 51 c_z_toVertex := keeps_z k_laws_toVertex rfl rfl rfl fun xs hs Fs K h => by
  simp only [c_z_toVertex] at h
  split at h
  case h_2 => exact h.elim
  rename_i r a rows d
  obtain ⟨rfl, p, rfl, h⟩ := h
  refine ⟨[.agg [I r, I a, .ints p, I d]], ⟨rfl, h⟩, zs_agg rfl (zl_out (xs := [I r, I a, .zsl 1 (icells p), I d]) (ys := [I r, I a, .ints p, I d]) ⟨zs_refl _, zs_refl _, zs_ints p, zs_refl _, trivial⟩).2, trivial⟩
theorem vxz_at {g : List VxD} {i : Nat} {e : List AV} (h : (g.map VxD.rowZ)[i]? = some e) : ∃ x, g[i]? = some x ∧ e = x.rowZ := by
  rw [List.getElem?_map] at h
  obtain ⟨x, hx, rfl⟩ := Option.map_eq_some_iff.1 h
  exact ⟨x, hx, rfl⟩
def c_z_toVertexS : Con := ⟨1, 0, true, fun xs hs _ K => match xs with
  | [.zsl 4 rows] => hs = [] ∧ ∃ g : List VxD, rows = g.map VxD.rowZ ∧ (∀ x ∈ g, x.mid) ∧ g.length ≤ 1048576 ∧ K (.own 0) [.arr 4 (g.map VxD.row)] []
  | _ => False⟩
theorem k_laws_toVertexS_n : Keeps' Tryz.prog 18 c_z_toVertexS := by
  refine keeps_of_vc mix TyT_ok (cok_cons k_laws_toVertex_n Tryz.func51 rfl rfl cok_nil) Tryz.func18 rfl rfl rfl ?_
  intro aargs hs Fs K h
  simp only [c_z_toVertexS] at h
  split at h
  case h_2 => exact h.elim
  rename_i rows
  obtain ⟨rfl, g, rfl, hmid, hl, h⟩ := h
  have hlen : (g.map VxD.rowZ).length = g.length := by simp
  repeat' (first|((conv=>whnf); (first|refine brK_dec (fun _=>?_) (fun _=>?_)|refine brK_ndec (fun _=>?_) (fun _=>?_)|refine brK_not (fun _=>?_) (fun _=>?_)|refine brK_in (fun _=>?_) (fun _=>?_)|refine And.intro (by first|exact rfl|exact ⟨_,rfl,rfl⟩|exact ⟨rfl,rfl,rfl⟩|exact of_decide_eq_true rfl|exact trivial|assumption|omega|(show (_ ≤ _ ∧ _ ≤ _); omega)|(simp; omega)|exact ⟨by first|omega|(simp; omega),_,rfl,rfl⟩) ?_|refine Quo.l (And.intro (by first|exact rfl|assumption|omega|(simp; omega)) ?_)|refine Quo.r (And.intro (by omega) ?_)|refine Both.mk ?_ ?_|refine Exists.intro _ (And.intro rfl ?_)|refine fun _=>?_))|exact rfl)
  refine loop_in (ι := Nat) (fun i => mkS 23 [(0, .zsl 4 (g.map VxD.rowZ)), (2, .val (.slice none 0 0)), (3, .own 0), (4, I i)] [.arr 4 (vxTo g i)] Fs) (fun i => i ≤ g.length) (fun i => g.length - i) 0 [0] (Nat.zero_le _) ?_ ?_
  · repeat' (first|((conv=>whnf); (first|refine brK_dec (fun _=>?_) (fun _=>?_)|refine brK_ndec (fun _=>?_) (fun _=>?_)|refine brK_not (fun _=>?_) (fun _=>?_)|refine brK_in (fun _=>?_) (fun _=>?_)|refine And.intro (by first|exact rfl|exact (vxTo_zero g _ (by simp))|exact ⟨_,rfl,rfl⟩|exact ⟨rfl,rfl,rfl⟩|exact of_decide_eq_true rfl|exact trivial|assumption|omega|(show (_ ≤ _ ∧ _ ≤ _); omega)|(simp; omega)|exact ⟨by first|omega|(simp; omega),_,rfl,rfl⟩) ?_|refine Quo.l (And.intro (by first|exact rfl|exact (vxTo_zero g _ (by simp))|assumption|omega|(simp; omega)) ?_)|refine Quo.r (And.intro (by omega) ?_)|refine Both.mk ?_ ?_|refine Exists.intro _ (And.intro rfl ?_)|refine fun _=>?_))|exact rfl)
  intro i hi
  have hrl := vxTo_len hi
  repeat' (first|((conv=>whnf); (first|refine brK_dec (fun _=>?_) (fun _=>?_)|refine brK_ndec (fun _=>?_) (fun _=>?_)|refine brK_not (fun _=>?_) (fun _=>?_)|refine brK_in (fun _=>?_) (fun _=>?_)|refine And.intro (by first|exact rfl|exact ⟨_,rfl,rfl⟩|exact ⟨rfl,rfl,rfl⟩|exact of_decide_eq_true rfl|exact trivial|assumption|omega|(show (_ ≤ _ ∧ _ ≤ _); omega)|(simp; omega)|exact ⟨by first|omega|(simp; omega),_,rfl,rfl⟩) ?_|refine Quo.l (And.intro (by first|exact rfl|assumption|omega|(simp; omega)) ?_)|refine Quo.r (And.intro (by omega) ?_)|refine Both.mk ?_ ?_|refine Exists.intro _ (And.intro rfl ?_)|refine fun _=>?_))|exact rfl)
  · rename_i hil e he
    obtain ⟨x, hx, rfl⟩ := vxz_at he
    have hx : g[i]? = some x := hx
    have hb : x.p.length ≤ 1048576 := hmid x (List.mem_of_getElem? hx)
    repeat' (first|((conv=>whnf); (first|refine brK_dec (fun _=>?_) (fun _=>?_)|refine brK_ndec (fun _=>?_) (fun _=>?_)|refine brK_not (fun _=>?_) (fun _=>?_)|refine brK_in (fun _=>?_) (fun _=>?_)|refine And.intro (by first|exact rfl|exact ⟨_,rfl,rfl⟩|exact ⟨rfl,rfl,rfl⟩|exact of_decide_eq_true rfl|exact trivial|assumption|omega|(show (_ ≤ _ ∧ _ ≤ _); omega)|(simp; omega)|exact ⟨by first|omega|(simp; omega),_,rfl,rfl⟩) ?_|refine Quo.l (And.intro (by first|exact rfl|assumption|omega|(simp; omega)) ?_)|refine Quo.r (And.intro (by omega) ?_)|refine Both.mk ?_ ?_|refine Exists.intro _ (And.intro rfl ?_)|refine fun _=>?_))|exact rfl)
    rename_i e he2
    have he2 : (vxTo g i)[i]? = some e := he2
    obtain rfl := vxTo_at (by omega) he2
    refine ⟨i + 1, [0], by omega, by omega, ?_⟩
    repeat' (first|((conv=>whnf); (first|refine brK_dec (fun _=>?_) (fun _=>?_)|refine brK_ndec (fun _=>?_) (fun _=>?_)|refine brK_not (fun _=>?_) (fun _=>?_)|refine brK_in (fun _=>?_) (fun _=>?_)|refine And.intro (by first|exact rfl|exact ((vxTo_set hx).symm)|exact ⟨_,rfl,rfl⟩|exact ⟨rfl,rfl,rfl⟩|exact of_decide_eq_true rfl|exact trivial|assumption|omega|(show (_ ≤ _ ∧ _ ≤ _); omega)|(simp; omega)|exact ⟨by first|omega|(simp; omega),_,rfl,rfl⟩) ?_|refine Quo.l (And.intro (by first|exact rfl|exact ((vxTo_set hx).symm)|assumption|omega|(simp; omega)) ?_)|refine Quo.r (And.intro (by omega) ?_)|refine Both.mk ?_ ?_|refine Exists.intro _ (And.intro rfl ?_)|refine fun _=>?_))|exact rfl)
  · rename_i hil
    have e : i = g.length := by omega
    subst e
    rw [vxTo_all]
    exact h
end Go.Proofs.YtkabnbjlglippaaGreatDoor
namespace Go.Proofs.YtkabnbjlglippaaGreatDoor
open Go Go.Vc
set_option maxHeartbeats 2000000
set_option maxRecDepth 10000
def mkL (k : Int) (n : Nat) : List Int := (List.range n).map fun (i : Nat) => k + (i : Int)
theorem mkL_len (k : Int) (n : Nat) : (mkL k n).length = n := by simp [mkL]
theorem mkL_get {k : Int} {n i : Nat} {x : Int} (h : (mkL k n)[i]? = some x) : x = k + i := by
  simp only [mkL, List.getElem?_map] at h
  obtain ⟨y, h1, rfl⟩ := Option.map_eq_some_iff.1 h
  rw [List.getElem?_range (by have := (List.getElem?_eq_some_iff.1 h1).1; simpa using this)] at h1
  simp at h1
  rw [h1]
theorem mkL_set {k : Int} {l : List Int} {i : Nat} (hi : i < l.length) : (mkL k i ++ l.drop i).set i (k + i) = mkL k (i + 1) ++ l.drop (i + 1) := by
  have e1 := mkL_len k i
  rw [List.set_append, if_neg (by omega), e1, Nat.sub_self, List.drop_eq_getElem_cons hi, List.set_cons_zero]
  simp [mkL, List.range_succ]
def c_laws_markIntS : Con := ⟨0, 3, false, fun xs hs _ K => match xs, hs with
  | [.own 0, .val (.int .i64 k)], [.iarr l] => 0 ≤ k ∧ k ≤ 4000000000000000000 ∧ l.length < 2000000 ∧ K (I (k + l.length)) [.iarr (mkL k l.length)] []
  | _, _ => False⟩
theorem k_laws_markIntS : Keeps' Tryz.prog 22 c_laws_markIntS := by
  refine keeps_of_vc mix TyT_ok (cok_stay cok_nil) Tryz.func22 rfl rfl rfl ?_
  intro aargs hs Fs K h
  simp only [c_laws_markIntS] at h
  split at h
  case h_2 => exact h.elim
  rename_i k l
  obtain ⟨h0, h1, hl, h⟩ := h
  repeat' (first|((conv=>whnf); (first|refine brK_dec (fun _=>?_) (fun _=>?_)|refine brK_ndec (fun _=>?_) (fun _=>?_)|refine brK_not (fun _=>?_) (fun _=>?_)|refine brK_in (fun _=>?_) (fun _=>?_)|refine And.intro (by first|exact rfl|exact ⟨_,rfl,rfl⟩|exact ⟨rfl,rfl,rfl⟩|exact of_decide_eq_true rfl|exact trivial|assumption|omega|(show (_ ≤ _ ∧ _ ≤ _); omega)|(simp; omega)|exact ⟨by first|omega|(simp; omega),_,rfl,rfl⟩) ?_|refine Quo.l (And.intro (by first|exact rfl|assumption|omega|(simp; omega)) ?_)|refine Quo.r (And.intro (by omega) ?_)|refine Both.mk ?_ ?_|refine Exists.intro _ (And.intro rfl ?_)|refine fun _=>?_))|exact rfl)
  refine loop_in (ι := Nat) (fun i => mkS 19 [(0, .own 0), (1, I (k + i)), (4, I 0), (5, I i)] [.iarr (mkL k i ++ l.drop i)] Fs) (fun i => i ≤ l.length) (fun i => l.length - i) 0 [0] (Nat.zero_le _) ?_ ?_
  · repeat' (first|((conv=>whnf); (first|refine brK_dec (fun _=>?_) (fun _=>?_)|refine brK_ndec (fun _=>?_) (fun _=>?_)|refine brK_not (fun _=>?_) (fun _=>?_)|refine brK_in (fun _=>?_) (fun _=>?_)|refine And.intro (by first|exact rfl|exact (by simp)|exact ⟨_,rfl,rfl⟩|exact ⟨rfl,rfl,rfl⟩|exact of_decide_eq_true rfl|exact trivial|assumption|omega|(show (_ ≤ _ ∧ _ ≤ _); omega)|(simp; omega)|exact ⟨by first|omega|(simp; omega),_,rfl,rfl⟩) ?_|refine Quo.l (And.intro (by first|exact rfl|exact (by simp)|assumption|omega|(simp; omega)) ?_)|refine Quo.r (And.intro (by omega) ?_)|refine Both.mk ?_ ?_|refine Exists.intro _ (And.intro rfl ?_)|refine fun _=>?_))|exact rfl)
  intro i hi
  have hlen : (mkL k i ++ l.drop i).length = l.length := by rw [List.length_append, mkL_len, List.length_drop]; omega
  repeat' (first|((conv=>whnf); (first|refine brK_dec (fun _=>?_) (fun _=>?_)|refine brK_ndec (fun _=>?_) (fun _=>?_)|refine brK_not (fun _=>?_) (fun _=>?_)|refine brK_in (fun _=>?_) (fun _=>?_)|refine And.intro (by first|exact rfl|exact ⟨_,rfl,rfl⟩|exact ⟨rfl,rfl,rfl⟩|exact of_decide_eq_true rfl|exact trivial|assumption|omega|(show (_ ≤ _ ∧ _ ≤ _); omega)|(simp; omega)|exact ⟨by first|omega|(simp; omega),_,rfl,rfl⟩) ?_|refine Quo.l (And.intro (by first|exact rfl|assumption|omega|(simp; omega)) ?_)|refine Quo.r (And.intro (by omega) ?_)|refine Both.mk ?_ ?_|refine Exists.intro _ (And.intro rfl ?_)|refine fun _=>?_))|exact rfl)
  · rename_i hil
    have e := mkL_set (k := k) (l := l) (i := i) (by omega)
    refine ⟨i + 1, [0], by omega, by omega, ?_⟩
    repeat' (first|((conv=>whnf); (first|refine brK_dec (fun _=>?_) (fun _=>?_)|refine brK_ndec (fun _=>?_) (fun _=>?_)|refine brK_not (fun _=>?_) (fun _=>?_)|refine brK_in (fun _=>?_) (fun _=>?_)|refine And.intro (by first|exact rfl|exact e.symm|exact ⟨_,rfl,rfl⟩|exact ⟨rfl,rfl,rfl⟩|exact of_decide_eq_true rfl|exact trivial|assumption|omega|(show (_ ≤ _ ∧ _ ≤ _); omega)|(simp; omega)|exact ⟨by first|omega|(simp; omega),_,rfl,rfl⟩) ?_|refine Quo.l (And.intro (by first|exact rfl|exact e.symm|assumption|omega|(simp; omega)) ?_)|refine Quo.r (And.intro (by omega) ?_)|refine Both.mk ?_ ?_|refine Exists.intro _ (And.intro rfl ?_)|refine fun _=>?_))|exact rfl)
  · rename_i hil
    obtain rfl : i = l.length := by omega
    rw [List.drop_length, List.append_nil]
    exact h
def c_laws_heldIntS : Con := ⟨0, 0, false, fun xs hs _ K => match xs with
  | [.ints l, .val (.int .i64 k)] => hs = [] ∧ 0 ≤ k ∧ k ≤ 100000000 ∧ l.length < 2000000 ∧ l = mkL k l.length ∧ K (I (k + l.length)) [] []
  | _ => False⟩
theorem k_laws_heldIntS : Keeps' Tryz.prog 24 c_laws_heldIntS := by
  refine keeps_of_vc mix TyT_ok cok_nil Tryz.func24 rfl rfl rfl ?_
  intro aargs hs Fs K h
  simp only [c_laws_heldIntS] at h
  split at h
  case h_2 => exact h.elim
  rename_i l k
  obtain ⟨rfl, h0, h1, hl, hm, h⟩ := h
  repeat' (first|((conv=>whnf); (first|refine brK_dec (fun _=>?_) (fun _=>?_)|refine brK_ndec (fun _=>?_) (fun _=>?_)|refine brK_not (fun _=>?_) (fun _=>?_)|refine brK_in (fun _=>?_) (fun _=>?_)|refine And.intro (by first|exact rfl|exact ⟨_,rfl,rfl⟩|exact ⟨rfl,rfl,rfl⟩|exact of_decide_eq_true rfl|exact trivial|assumption|omega|(show (_ ≤ _ ∧ _ ≤ _); omega)|(simp; omega)|exact ⟨by first|omega|(simp; omega),_,rfl,rfl⟩) ?_|refine Quo.l (And.intro (by first|exact rfl|assumption|omega|(simp; omega)) ?_)|refine Quo.r (And.intro (by omega) ?_)|refine Both.mk ?_ ?_|refine Exists.intro _ (And.intro rfl ?_)|refine fun _=>?_))|exact rfl)
  refine loop_in (ι := Nat) (fun i => mkS 21 [(0, .ints l), (1, I (k + i)), (4, I 0), (5, I i)] [] Fs) (fun i => i ≤ l.length) (fun i => l.length - i) 0 [] (Nat.zero_le _) ?_ ?_
  · repeat' (first|((conv=>whnf); (first|refine brK_dec (fun _=>?_) (fun _=>?_)|refine brK_ndec (fun _=>?_) (fun _=>?_)|refine brK_not (fun _=>?_) (fun _=>?_)|refine brK_in (fun _=>?_) (fun _=>?_)|refine And.intro (by first|exact rfl|exact ⟨_,rfl,rfl⟩|exact ⟨rfl,rfl,rfl⟩|exact of_decide_eq_true rfl|exact trivial|assumption|omega|(show (_ ≤ _ ∧ _ ≤ _); omega)|(simp; omega)|exact ⟨by first|omega|(simp; omega),_,rfl,rfl⟩) ?_|refine Quo.l (And.intro (by first|exact rfl|assumption|omega|(simp; omega)) ?_)|refine Quo.r (And.intro (by omega) ?_)|refine Both.mk ?_ ?_|refine Exists.intro _ (And.intro rfl ?_)|refine fun _=>?_))|exact rfl)
  intro i hi
  repeat' (first|((conv=>whnf); (first|refine brK_dec (fun _=>?_) (fun _=>?_)|refine brK_ndec (fun _=>?_) (fun _=>?_)|refine brK_not (fun _=>?_) (fun _=>?_)|refine brK_in (fun _=>?_) (fun _=>?_)|refine And.intro (by first|exact rfl|exact ⟨_,rfl,rfl⟩|exact ⟨rfl,rfl,rfl⟩|exact of_decide_eq_true rfl|exact trivial|assumption|omega|(show (_ ≤ _ ∧ _ ≤ _); omega)|(simp; omega)|exact ⟨by first|omega|(simp; omega),_,rfl,rfl⟩) ?_|refine Quo.l (And.intro (by first|exact rfl|assumption|omega|(simp; omega)) ?_)|refine Quo.r (And.intro (by omega) ?_)|refine Both.mk ?_ ?_|refine Exists.intro _ (And.intro rfl ?_)|refine fun _=>?_))|exact rfl)
  · rename_i hil x hx hne
    have hx : l[i]? = some x := hx
    rw [hm] at hx
    exact absurd (mkL_get hx) hne
  · rename_i hil x hx hne
    refine ⟨i + 1, [], by omega, by omega, ?_⟩
    repeat' (first|((conv=>whnf); (first|refine brK_dec (fun _=>?_) (fun _=>?_)|refine brK_ndec (fun _=>?_) (fun _=>?_)|refine brK_not (fun _=>?_) (fun _=>?_)|refine brK_in (fun _=>?_) (fun _=>?_)|refine And.intro (by first|exact rfl|exact ⟨_,rfl,rfl⟩|exact ⟨rfl,rfl,rfl⟩|exact of_decide_eq_true rfl|exact trivial|assumption|omega|(show (_ ≤ _ ∧ _ ≤ _); omega)|(simp; omega)|exact ⟨by first|omega|(simp; omega),_,rfl,rfl⟩) ?_|refine Quo.l (And.intro (by first|exact rfl|assumption|omega|(simp; omega)) ?_)|refine Quo.r (And.intro (by omega) ?_)|refine Both.mk ?_ ?_|refine Exists.intro _ (And.intro rfl ?_)|refine fun _=>?_))|exact rfl)
  · rename_i hil
    obtain rfl : i = l.length := by omega
    exact h
/-- The mark of a slice that is nil. -/
def c_laws_markN : Con := ⟨0, 3, false, fun xs hs _ K => match xs, hs with
  | [.val (.slice none 0 0), .val (.int .i64 k)], [] => 0 ≤ k ∧ k ≤ 100000000 ∧ K (I k) [] []
  | _, _ => False⟩
theorem k_laws_markIntS_n : Keeps' Tryz.prog 22 c_laws_markN := by
  refine keeps_of_vc mix TyT_ok (cok_stay cok_nil) Tryz.func22 rfl rfl rfl ?_
  intro aargs hs Fs K h
  simp only [c_laws_markN] at h
  split at h
  case h_2 => exact h.elim
  rename_i k
  obtain ⟨h0, h1, h⟩ := h
  repeat' (first|((conv=>whnf); (first|refine brK_dec (fun _=>?_) (fun _=>?_)|refine brK_ndec (fun _=>?_) (fun _=>?_)|refine brK_not (fun _=>?_) (fun _=>?_)|refine brK_in (fun _=>?_) (fun _=>?_)|refine And.intro (by first|exact rfl|exact ⟨_,rfl,rfl⟩|exact ⟨rfl,rfl,rfl⟩|exact of_decide_eq_true rfl|exact trivial|assumption|omega|(show (_ ≤ _ ∧ _ ≤ _); omega)|(simp; omega)|exact ⟨by first|omega|(simp; omega),_,rfl,rfl⟩) ?_|refine Quo.l (And.intro (by first|exact rfl|assumption|omega|(simp; omega)) ?_)|refine Quo.r (And.intro (by omega) ?_)|refine Both.mk ?_ ?_|refine Exists.intro _ (And.intro rfl ?_)|refine fun _=>?_))|exact rfl)
  refine loop_in (ι := Unit) (fun _ => mkS 19 [(0, .val (.slice none 0 0)), (1, I k), (4, I 0), (5, I 0)] [] Fs) (fun _ => True) (fun _ => 0) () [] trivial ?_ ?_
  · repeat' (first|((conv=>whnf); (first|refine brK_dec (fun _=>?_) (fun _=>?_)|refine brK_ndec (fun _=>?_) (fun _=>?_)|refine brK_not (fun _=>?_) (fun _=>?_)|refine brK_in (fun _=>?_) (fun _=>?_)|refine And.intro (by first|exact rfl|exact ⟨_,rfl,rfl⟩|exact ⟨rfl,rfl,rfl⟩|exact of_decide_eq_true rfl|exact trivial|assumption|omega|(show (_ ≤ _ ∧ _ ≤ _); omega)|(simp; omega)|exact ⟨by first|omega|(simp; omega),_,rfl,rfl⟩) ?_|refine Quo.l (And.intro (by first|exact rfl|assumption|omega|(simp; omega)) ?_)|refine Quo.r (And.intro (by omega) ?_)|refine Both.mk ?_ ?_|refine Exists.intro _ (And.intro rfl ?_)|refine fun _=>?_))|exact rfl)
  intro _ _
  repeat' (first|((conv=>whnf); (first|refine brK_dec (fun _=>?_) (fun _=>?_)|refine brK_ndec (fun _=>?_) (fun _=>?_)|refine brK_not (fun _=>?_) (fun _=>?_)|refine brK_in (fun _=>?_) (fun _=>?_)|refine And.intro (by first|exact rfl|exact ⟨_,rfl,rfl⟩|exact ⟨rfl,rfl,rfl⟩|exact of_decide_eq_true rfl|exact trivial|assumption|omega|(show (_ ≤ _ ∧ _ ≤ _); omega)|(simp; omega)|exact ⟨by first|omega|(simp; omega),_,rfl,rfl⟩) ?_|refine Quo.l (And.intro (by first|exact rfl|assumption|omega|(simp; omega)) ?_)|refine Quo.r (And.intro (by omega) ?_)|refine Both.mk ?_ ?_|refine Exists.intro _ (And.intro rfl ?_)|refine fun _=>?_))|exact rfl)
  exact h
end Go.Proofs.YtkabnbjlglippaaGreatDoor
namespace Go.Proofs.YtkabnbjlglippaaGreatDoor
open Go Go.Vc Go.RowKit
set_option maxHeartbeats 4000000
set_option maxRecDepth 100000
/-- The blocks of B keep their make, all else is as it was. -/
structure Shp (B : Nat → Prop) (W w : World) : Prop where
  os : w.os = W.os
  tape : w.tape = W.tape
  output : w.output = W.output
  size : w.heap.size = W.heap.size
  same : ∀ b, ¬ B b → w.heap[b]? = W.heap[b]?
  shape : ∀ (b : Nat) (vs : Array Value) (T : TypeId) (fr : Nat × Nat), W.heap[b]? = some (Obj.cells vs T fr) → ∃ vs' : Array Value, w.heap[b]? = some (Obj.cells vs' T fr) ∧ vs'.size = vs.size
theorem Shp.refl (B : Nat → Prop) (W : World) : Shp B W W := ⟨rfl, rfl, rfl, rfl, fun _ _ => rfl, fun _ vs _ _ h => ⟨vs, h, rfl⟩⟩
theorem Shp.trans {B : Nat → Prop} {W w w' : World} (h : Shp B W w) (k : Shp B w w') : Shp B W w' :=
  ⟨k.os.trans h.os, k.tape.trans h.tape, k.output.trans h.output, k.size.trans h.size, fun b hb => (k.same b hb).trans (h.same b hb), fun b vs T fr hb => by
    obtain ⟨vs1, h1, h2⟩ := h.shape b vs T fr hb
    obtain ⟨vs2, h3, h4⟩ := k.shape b vs1 T fr h1
    exact ⟨vs2, h3, h4.trans h2⟩⟩
theorem Shp.mono {B B' : Nat → Prop} {W w : World} (h : Shp B W w) (hb : ∀ b, B b → B' b) : Shp B' W w := ⟨h.os, h.tape, h.output, h.size, fun b hn => h.same b fun hB => hn (hb b hB), h.shape⟩
theorem heap_setCell (w : World) (b off : Nat) (v : Value) (x : Nat) : (w.setCell ⟨b, off, none⟩ v).heap[x]? = if b = x then (w.heap[x]?).map fun
      | .cells c elem frozen => .cells (c.setIfInBounds off v) elem frozen
      | o => o else w.heap[x]? := by
  simp only [World.setCell, Array.getElem?_modify]
  by_cases e : b = x
  · rw [if_pos e, if_pos e]
    cases w.heap[x]? with
    | none => rfl
    | some o => cases o <;> simp
  · rw [if_neg e, if_neg e]
theorem Shp.setCell {B : Nat → Prop} {W w : World} (h : Shp B W w) {b : Nat} (hb : B b) (off : Nat) (v : Value) : Shp B W (w.setCell ⟨b, off, none⟩ v) := by
  refine ⟨h.os, h.tape, h.output, by simpa [World.setCell] using h.size, fun x hx => ?_, fun x vs T fr hx => ?_⟩
  · rw [heap_setCell, if_neg (by rintro rfl; exact hx hb)]
    exact h.same x hx
  · obtain ⟨vs1, h1, h2⟩ := h.shape x vs T fr hx
    rw [heap_setCell]
    split
    · rw [h1]
      exact ⟨_, rfl, by simpa using h2⟩
    · exact ⟨vs1, h1, h2⟩
/-- A slice of m elements in a block of B that may be written. -/
def SlOk (B : Nat → Prop) (W : World) (v : Value) (m : Nat) : Prop := ∃ (a : Option Addr) (cap : Nat), v = .slice a m cap ∧ (m = 0 ∨ ∃ (b off : Nat) (vs : Array Value) (T : TypeId), a = some ⟨b, off, none⟩ ∧ B b ∧ W.heap[b]? = some (.cells vs T (0, 0)) ∧ off + m ≤ vs.size)
theorem SlOk.move {B B' : Nat → Prop} {W w : World} {v : Value} {m : Nat} (h : SlOk B W v m) (k : Shp B' W w) : SlOk B w v m := by
  obtain ⟨a, cap, rfl, h⟩ := h
  refine ⟨a, cap, rfl, h.imp id ?_⟩
  rintro ⟨b, off, vs, T, rfl, hB, h1, h2⟩
  obtain ⟨vs', h3, h4⟩ := k.shape b vs T _ h1
  exact ⟨b, off, vs', T, rfl, hB, h3, by omega⟩
theorem cell_there {w : World} {b : Nat} {vs : Array Value} {T : TypeId} (h : w.heap[b]? = some (.cells vs T (0, 0))) {i : Nat} (hi : i < vs.size) : (∃ u, w.cell? ⟨b, i, none⟩ = some u) ∧ w.frozen? ⟨b, i, none⟩ = false := by
  refine ⟨⟨vs[i], ?_⟩, ?_⟩
  · simp [World.cell?, h, hi]
  · simp [World.frozen?, h]
theorem markI_some {W : World} {b off m cap : Nat} {vs0 : Array Value} {T0 : TypeId} (hb : W.heap[b]? = some (.cells vs0 T0 (0, 0))) (hm : off + m ≤ vs0.size) (k : Int) (h0 : 0 ≤ k) (h1 : k ≤ 4000000000000000000) (hm2 : m < 2000000) :
    Calls Tryz.prog 22 #[.slice (some ⟨b, off, none⟩) m cap, .int .i64 k] W fun e w' => e = .returned (.int .i64 (k + m)) ∧ Shp (· = b) W w' := by
  go_enter Tryz.func22, Tryz.ntmps22
  go_wp2
  go_loopw [1, 5] (fun kv i wr => ∃ j : Nat, j ≤ m ∧ kv = .int .i64 (k + j) ∧ i = .int .i64 j ∧ Shp (· = b) W wr) (fun _ i _ => m - (intOf i).toNat)
  case atStart => exact ⟨0, Nat.zero_le _, by simp, rfl, Shp.refl _ _⟩
  case round =>
    obtain ⟨j, hj, rfl, rfl, hS⟩ := hrel
    obtain ⟨vs1, hb1, hs1⟩ := hS.shape b vs0 T0 _ hb
    have hset := fun v => hS.setCell (b := b) rfl (off + j) v
    have q1 : k + j + 1 ≤ 9223372036854775807 := by omega
    have q2 : -9223372036854775808 ≤ k + j + 1 := by omega
    by_cases hlt : j < m
    · obtain ⟨⟨u, hu⟩, hfz⟩ := cell_there hb1 (i := off + j) (by omega)
      clear hb1 hb hs1
      go_wp2
      case roundEnd =>
        refine ⟨⟨j + 1, hlt, ?_, ?_, hset _⟩, ?_⟩
        · simp; omega
        · simp
        · simp [intOf]; omega
      all_goals (exfalso; omega)
    · obtain rfl : j = m := by omega
      clear hb1 hb hs1 hset
      go_wp2
      go_ret
      exact ⟨rfl, hS⟩
theorem markI_none {W : World} {a : Option Addr} {cap : Nat} (k : Int) : Calls Tryz.prog 22 #[.slice a 0 cap, .int .i64 k] W fun e w' => e = .returned (.int .i64 k) ∧ w' = W := by
  go_enter Tryz.func22, Tryz.ntmps22
  go_wp2
  go_loopw [1, 5] (fun kv i wr => kv = .int .i64 k ∧ i = .int .i64 0 ∧ wr = W) (fun _ _ _ => 0)
  case atStart => exact ⟨rfl, rfl, rfl⟩
  case round =>
    obtain ⟨rfl, rfl, rfl⟩ := hrel
    go_wp2
    go_ret
    exact ⟨rfl, rfl⟩
/-- Marks in a slice of numbers. -/
theorem markI_calls {B : Nat → Prop} {W : World} {v : Value} {m : Nat} (h : SlOk B W v m) (k : Int) (h0 : 0 ≤ k) (h1 : k ≤ 4000000000000000000) (hm2 : m < 2000000) :
    Calls Tryz.prog 22 #[v, .int .i64 k] W fun e w' => e = .returned (.int .i64 (k + m)) ∧ Shp B W w' := by
  obtain ⟨a, cap, rfl, h⟩ := h
  by_cases hm : m = 0
  · subst hm
    refine (markI_none k).mono ?_
    rintro e w' ⟨rfl, rfl⟩
    exact ⟨by simp, Shp.refl _ _⟩
  · obtain ⟨b, off, vs, T, rfl, hB, hb, hs⟩ := h.resolve_left hm
    refine (markI_some hb hs k h0 h1 hm2).mono ?_
    rintro e w' ⟨rfl, hS⟩
    exact ⟨rfl, hS.mono fun b' e => by subst e; exact hB⟩
end Go.Proofs.YtkabnbjlglippaaGreatDoor
namespace Go.Proofs.YtkabnbjlglippaaGreatDoor
open Go Go.Vc Go.RowKit
set_option maxHeartbeats 4000000
set_option maxRecDepth 100000
/-- The number behind the marks of the vertices. -/
def mkVx (g : List VxD) (k : Int) : Int := k + (g.map fun x => 3 + (x.p.length : Int)).sum
theorem mkVx_snoc {g : List VxD} {i : Nat} {x : VxD} {k : Int} (h : g[i]? = some x) : mkVx (g.take (i + 1)) k = mkVx (g.take i) k + 3 + x.p.length := by
  unfold mkVx
  rw [List.take_add_one, h]
  simp only [Option.toList_some, List.map_append, List.map_cons, List.map_nil, List.sum_append, List.sum_cons, List.sum_nil]
  omega
theorem sum_le {g : List VxD} (h : ∀ x ∈ g, x.p.length ≤ 1048576) : 0 ≤ (g.map fun x => 3 + (x.p.length : Int)).sum ∧ (g.map fun x => 3 + (x.p.length : Int)).sum ≤ g.length * 1048579 := by
  induction g with
  | nil => simp
  | cons x g ih =>
    have h1 := ih fun y hy => h y (by simp [hy])
    have h2 := h x (by simp)
    simp only [List.map_cons, List.sum_cons, List.length_cons]
    omega
theorem mkVx_le {g : List VxD} (h : ∀ x ∈ g, x.p.length ≤ 1048576) (hl : g.length ≤ 1048576) (k : Int) (i : Nat) : k ≤ mkVx (g.take i) k ∧ mkVx (g.take i) k ≤ k + 1099514773504 := by
  have h1 := sum_le (g := g.take i) fun x hx => h x (List.mem_of_mem_take hx)
  have h2 : (g.take i).length ≤ 1048576 := by simp; omega
  unfold mkVx
  omega
/-- What stays of the outer row. -/
structure VxS (B : Nat → Prop) (b0 : Nat) (W w : World) (g : List VxD) (us : Nat → Value) : Prop where
  shp : Shp (fun b => B b ∨ b = b0) W w
  par : ∀ (i : Nat) x, g[i]? = some x → w.cell? ⟨b0, i * 4 + 2, none⟩ = some (us i) ∧ SlOk B w (us i) x.p.length
theorem VxS.set {B : Nat → Prop} {b0 : Nat} {W w : World} {g : List VxD} {us : Nat → Value} (h : VxS B b0 W w g us) (off : Nat) (v : Value) (ho : ∀ i : Nat, off ≠ i * 4 + 2) : VxS B b0 W (w.setCell ⟨b0, off, none⟩ v) g us := by
  refine ⟨h.shp.setCell (.inr rfl) off v, fun i x hx => ?_⟩
  obtain ⟨h1, h2⟩ := h.par i x hx
  refine ⟨?_, h2.move ((Shp.refl (fun b => b = b0) w).setCell rfl off v)⟩
  rw [World.cell?_setCell_other _ _ _ _ (by intro e; cases e; exact ho i rfl)]
  exact h1
theorem VxS.go {B : Nat → Prop} {b0 : Nat} {W w w' : World} {g : List VxD} {us : Nat → Value} (h : VxS B b0 W w g us) (hb : ¬ B b0) (k : Shp B w w') : VxS B b0 W w' g us := by
  refine ⟨h.shp.trans (k.mono fun b hB => .inl hB), fun i x hx => ?_⟩
  obtain ⟨h1, h2⟩ := h.par i x hx
  refine ⟨?_, h2.move k⟩
  rw [← h1]
  exact World.cell?_of_block (k.same b0 hb)
theorem markV_calls {B : Nat → Prop} {W : World} {b0 cap : Nat} {vs0 : Array Value} {T0 : TypeId} {g : List VxD} {us : Nat → Value} (hB : ¬ B b0) (hb : W.heap[b0]? = some (.cells vs0 T0 (0, 0))) (hm : g.length * 4 ≤ vs0.size)
    (hp : ∀ (i : Nat) x, g[i]? = some x → W.cell? ⟨b0, i * 4 + 2, none⟩ = some (us i) ∧ SlOk B W (us i) x.p.length) (hl : g.length ≤ 1048576) (hmid : ∀ x ∈ g, x.p.length ≤ 1048576) (k : Int) (h0 : 0 ≤ k) (h1 : k ≤ 1000000000000000) :
    Calls Tryz.prog 23 #[.slice (some ⟨b0, 0, none⟩) g.length cap, .int .i64 k] W fun e w' => e = .returned (.int .i64 (mkVx g k)) ∧ Shp (fun b => B b ∨ b = b0) W w' := by
  go_enter Tryz.func23, Tryz.ntmps23
  go_wp2
  go_loopw [1, 5] (fun kv i wr => ∃ j : Nat, j ≤ g.length ∧ kv = .int .i64 (mkVx (g.take j) k) ∧ i = .int .i64 j ∧ VxS B b0 W wr g us) (fun _ i _ => g.length - (intOf i).toNat)
  case atStart => exact ⟨0, Nat.zero_le _, by simp [mkVx], rfl, Shp.refl _ _, hp⟩
  case round =>
    obtain ⟨j, hj, rfl, rfl, hS⟩ := hrel
    obtain ⟨vs1, hb1, hs1⟩ := hS.shp.shape b0 vs0 T0 _ hb
    have hle := mkVx_le hmid hl k j
    generalize hz : mkVx (g.take j) k = z at hle ⊢
    by_cases hlt : j < g.length
    · obtain ⟨x, hx⟩ : ∃ x, g[j]? = some x := ⟨_, List.getElem?_eq_getElem hlt⟩
      have hx2 := hmid x (List.mem_of_getElem? hx)
      obtain ⟨⟨u0, hu0⟩, hf0⟩ := cell_there hb1 (i := j * 4) (by omega)
      obtain ⟨q1, q2⟩ : z + 1 ≤ 9223372036854775807 ∧ -9223372036854775808 ≤ z + 1 := by omega
      obtain ⟨q3, q4⟩ : z + 1 + 1 ≤ 9223372036854775807 ∧ -9223372036854775808 ≤ z + 1 + 1 := by omega
      obtain ⟨q5, q6⟩ : z + 1 + 1 + x.p.length + 1 ≤ 9223372036854775807 ∧ -9223372036854775808 ≤ z + 1 + 1 + x.p.length + 1 := by omega
      have hS1 := hS.set (j * 4) (.int .i64 z) (fun i => by omega)
      obtain ⟨vs2, hb2, hs2⟩ := hS1.shp.shape b0 vs0 T0 _ hb
      obtain ⟨⟨u1, hu1⟩, hf1⟩ := cell_there hb2 (i := j * 4 + 1) (by omega)
      have hS2 := hS1.set (j * 4 + 1) (.int .i64 (z + 1)) (fun i => by omega)
      obtain ⟨hu2, hok⟩ := hS2.par j x hx
      have hcall := markI_calls hok (z + 1 + 1) (by omega) (by omega) (by omega)
      have hnext : ∀ w', Shp B ((wr.setCell ⟨b0, j * 4, none⟩ (.int .i64 z)).setCell ⟨b0, j * 4 + 1, none⟩ (.int .i64 (z + 1))) w' → (∃ u, w'.cell? ⟨b0, j * 4 + 3, none⟩ = some u) ∧ w'.frozen? ⟨b0, j * 4 + 3, none⟩ = false ∧ ∀ v, VxS B b0 W (w'.setCell ⟨b0, j * 4 + 3, none⟩ v) g us := by
        intro w' hw
        have hS3 := hS2.go hB hw
        obtain ⟨vs3, hb3, hs3⟩ := hS3.shp.shape b0 vs0 T0 _ hb
        obtain ⟨h5, h6⟩ := cell_there hb3 (i := j * 4 + 3) (by omega)
        exact ⟨h5, h6, fun v => hS3.set (j * 4 + 3) v (fun i => by omega)⟩
      have hsn := mkVx_snoc (k := k) hx
      rw [hz] at hsn
      clear hb hb1 hb2 hs1 hs2 hS hS1 hS2 hok hp
      go_wp2_with (go_at_call 22; refine hcall.mono ?_)
      rintro e w3 ⟨rfl, hw⟩
      obtain ⟨⟨u3, hu3⟩, hf3, hend⟩ := hnext w3 hw
      clear hnext hu0 hf0 hu1 hf1 hu2 hcall hw
      go_wp2
      refine ⟨⟨j + 1, hlt, ?_, ?_, hend _⟩, ?_⟩
      · rw [hsn]
        congr 1
        omega
      · simp
      · simp [intOf]; omega
    · obtain rfl : j = g.length := by omega
      rw [List.take_length] at hz
      clear hb1 hb hs1
      go_wp2
      go_ret
      rw [hz]
      exact ⟨rfl, hS.shp⟩
theorem ints_ok {c : Ctx} {p : List Int} {v : Value} (h : RepV c (.ints p) v) (hok : ∀ b, c.ok b → unfr c.w b) : SlOk (fun b => c.ok b ∧ ∃ vs T fr, c.w.heap[b]? = some (.cells vs T fr)) c.w v p.length := by
  obtain ⟨a, cap, rfl, _, hr⟩ := h.ints_slice
  refine ⟨a, cap, rfl, ?_⟩
  have hl := icells_length p
  have hg : ∀ (i : Nat), i < p.length → ∃ e, (icells p)[i]? = some e ∧ e.length = 1 := fun i hi => ⟨[I p[i]], icells_get.2 ⟨_, List.getElem?_eq_getElem hi, rfl⟩, rfl⟩
  revert hl hg hr
  generalize icells p = cs
  generalize p.length = m
  intro hr hl hg
  by_cases hm : m = 0
  · exact .inl hm
  · right
    generalize hv : Value.slice a m cap = v at hr
    cases hr with
    | sl0 => cases hv; exact absurd rfl hm
    | sl _ _ b off cap' vf hb hcap hl' hc hh =>
      cases hv
      obtain ⟨e, he, he1⟩ := hg (cs.length - 1) (by omega)
      obtain ⟨y, hy⟩ : ∃ y, e[0]? = some y := ⟨_, List.getElem?_eq_getElem (by omega)⟩
      have h1 := (hc _ e 0 y he hy).1
      obtain ⟨o, h2, h3⟩ := cells_of_cell h1
      cases o with
      | cells vs T fr =>
        have h2 : c.w.heap[b]? = some (.cells vs T fr) := h2
        have hfr := hok b hb vs T fr h2
        subst hfr
        refine ⟨b, off, vs, T, rfl, ⟨hb, vs, T, _, h2⟩, h2, ?_⟩
        rw [cell_of_row c.w b _ vs T (0, 0) h2] at h1
        have := (Array.getElem?_eq_some_iff.1 h1).1
        omega
      | _ => cases h3
def cs_markVertexS : AO → Int → (Int → Prop) → Prop := fun o k K => match o with
  | .arr 4 rows => ∃ g : List VxD, rows = g.map VxD.row ∧ g.length ≤ 1048576 ∧ (∀ x ∈ g, x.mid) ∧ 0 ≤ k ∧ k ≤ 1000000000000000 ∧ ∀ m, k ≤ m → m ≤ k + 1099514773504 → K m
  | _ => False
theorem sp_laws_markVertexS : SpFn Tryz.prog 23 cs_markVertexS := by
  refine ⟨fun c o v n K h hH ho hv hok => ?_, ⟨_, Tryz.func23, rfl, rfl⟩⟩
  unfold cs_markVertexS at h
  split at h
  case h_2 => exact h.elim
  case h_1 rows =>
    obtain ⟨g, rfl, hl, hmid, h0, h1, h⟩ := h
    obtain ⟨vs, T, o1, o2, o3, o4, o5⟩ := ho
    have hlm : (g.map VxD.row).length = g.length := by simp
    cases hv with
    | own _ sz m cap hk hcap hroom =>
      rw [hH] at hk
      simp only [AO.info, Option.some.injEq, Prod.mk.injEq, hlm] at hk
      obtain ⟨rfl, rfl⟩ := hk
      have hp : ∀ (i : Nat) x, g[i]? = some x → c.w.cell? ⟨c.ρ 0, i * 4 + 2, none⟩ = some (vs.getD (i * 4 + 2) undef) ∧ SlOk (fun b => c.ok b ∧ ∃ vs T fr, c.w.heap[b]? = some (.cells vs T fr)) c.w (vs.getD (i * 4 + 2) undef) x.p.length := by
        intro i x hx
        have hil := (List.getElem?_eq_some_iff.1 hx).1
        have hlt : i * 4 + 2 < vs.size := by rw [hlm] at o2; omega
        have hv : vs[i * 4 + 2]? = some (vs.getD (i * 4 + 2) undef) := by simp [Array.getD, hlt]
        refine ⟨by rw [cell_of_row c.w (c.ρ 0) _ vs T (0, 0) o1]; exact hv, ?_⟩
        have hr := (o5 i x.row 2 (.ints x.p) _ (by rw [List.getElem?_map, hx]; rfl) rfl hv).1
        exact ints_ok hr fun b hb => (hok b hb).1
      refine (markV_calls (fun hb => (hok _ hb.1).2 rfl) o1 (by rw [hlm] at o2; exact o2) hp hl hmid n h0 h1).mono ?_
      rintro e w' ⟨rfl, hS⟩
      have hle := mkVx_le hmid hl n g.length
      rw [List.take_length] at hle
      exact ⟨_, rfl, h _ hle.1 hle.2, hS.os, hS.tape, hS.output, Nat.le_of_eq hS.size.symm, fun b _ hn hne => hS.same b fun hb => hb.elim hn hne⟩
end Go.Proofs.YtkabnbjlglippaaGreatDoor
