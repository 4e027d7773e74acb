/-
The laws' own functions on epochs and links that lie in memory of their own: sizes, copies.
No conditions.
-/
import Derived.Test.YtdljacpmoaeepaaDoorLsA
import Derived.Test.YtdljacpmoaeepaaDoorVcMH
namespace Go.Proofs.YtdljacpmoaeepaaDoor
open Go Go.Vc
set_option maxHeartbeats 2000000
set_option maxRecDepth 10000
def LkD.rowZ (x : LkD) : List AV := [I x.e.n, .zsl 1 (icells x.e.c), .zsl 1 (icells x.e.k), I x.e.r, I x.d, .zsl 1 (icells x.s), I x.m]
theorem zs_lrow (x : LkD) : ZL x.rowZ x.row := ⟨zs_refl _, zs_ints _, zs_ints _, zs_refl _, zs_refl _, zs_ints _, zs_refl _, trivial⟩
theorem zs_lrows (ls : List LkD) : ZS (.zsl 7 (ls.map LkD.rowZ)) (.sl 7 (ls.map LkD.row)) := zs_sl (by simp) fun i e e' he he' => by
  rw [List.getElem?_map] at he he'
  obtain ⟨v, hv, rfl⟩ := Option.map_eq_some_iff.1 he
  rw [hv] at he'
  cases he'
  refine ⟨rfl, fun j a a' ha ha' => ⟨?_, (zl_out (zs_lrow v)).2 j a a' ha ha'⟩⟩
  have hm := List.mem_of_getElem? ha'
  simp only [LkD.row, List.mem_cons, List.not_mem_nil, or_false] at hm
  rcases hm with rfl | rfl | rfl | rfl | rfl | rfl | rfl <;> rfl
theorem zs_ep {n : Int} {c k : List Int} {r : Int} : ZS (.agg [I n, .zsl 1 (icells c), .zsl 1 (icells k), I r]) (.agg [I n, .ints c, .ints k, I r]) :=
  zs_agg rfl (zl_out (xs := [I n, .zsl 1 (icells c), .zsl 1 (icells k), I r]) (ys := [I n, .ints c, .ints k, I r]) ⟨zs_refl _, zs_ints c, zs_ints k, zs_refl _, trivial⟩).2
def c_z_szEpoch : Con := ⟨0, 0, false, fun xs hs _ K => match xs with
  | [.agg [.val (.int .i64 _), .zsl 1 rc, .zsl 1 rk, .val (.int .i64 _)], .val (.int .i64 n)] => hs = [] ∧ ∃ c k, rc = icells c ∧ rk = icells k ∧ c.length ≤ 9223372036854775807 ∧ k.length ≤ 9223372036854775807 ∧ 0 ≤ n ∧ n ≤ 1048576 ∧ K (I (szE c k n)) [] []
  | _ => False⟩
theorem k_laws_szEpoch_n : Keeps' Tryd.prog 4 c_z_szEpoch := keeps_z k_laws_szEpoch rfl rfl rfl fun xs hs Fs K h => by
  simp only [c_z_szEpoch] at h
  split at h
  case h_2 => exact h.elim
  rename_i n0 rc rk r n
  obtain ⟨rfl, c, k, rfl, rfl, h⟩ := h
  exact ⟨[.agg [I n0, .ints c, .ints k, I r], I n], ⟨rfl, h⟩, zs_ep, zs_refl _, trivial⟩
def c_z_szLinkS : Con := ⟨0, 0, false, fun xs hs _ K => match xs with
  | [.zsl 7 rows, .val (.int .i64 n)] => hs = [] ∧ ∃ ls : List LkD, rows = ls.map LkD.rowZ ∧ (∀ x ∈ ls, x.big) ∧ ls.length ≤ 9223372036854775807 ∧ 0 ≤ n ∧ n ≤ 1048576 ∧
    ∀ v, v ≤ n → (0 ≤ v → ls.length ≤ 1048576 ∧ ∀ x ∈ ls, x.mid) → K (I v) [] []
  | _ => False⟩
theorem k_laws_szLinkS_n : Keeps' Tryd.prog 5 c_z_szLinkS := keeps_z k_laws_szLinkS rfl rfl rfl fun xs hs Fs K h => by
  simp only [c_z_szLinkS] at h
  split at h
  case h_2 => exact h.elim
  rename_i rows n
  obtain ⟨rfl, ls, rfl, h⟩ := h
  exact ⟨[.sl 7 (ls.map LkD.row), I n], ⟨rfl, ls, rfl, h⟩, zs_lrows ls, zs_refl _, trivial⟩
def c_z_toEpoch : Con := ⟨2, 0, false, fun xs hs _ K => match xs with
  | [.agg [.val (.int .i64 n), .zsl 1 rc, .zsl 1 rk, .val (.int .i64 r)]] => hs = [] ∧ ∃ c k, rc = icells c ∧ rk = icells k ∧ c.length ≤ 1048576 ∧ k.length ≤ 1048576 ∧ K (.agg [I n, .own 0, .own 1, I r]) [.iarr c, .iarr k] []
  | _ => False⟩
theorem k_laws_toEpoch_n : Keeps' Tryd.prog 7 c_z_toEpoch := keeps_z k_laws_toEpoch rfl rfl rfl fun xs hs Fs K h => by
  simp only [c_z_toEpoch] at h
  split at h
  case h_2 => exact h.elim
  rename_i n rc rk r
  obtain ⟨rfl, c, k, rfl, rfl, h⟩ := h
  exact ⟨[.agg [I n, .ints c, .ints k, I r]], ⟨rfl, h⟩, zs_ep, trivial⟩
def c_z_toLink : Con := ⟨3, 0, false, fun xs hs _ K => match xs with
  | [.agg [.val (.int .i64 n), .zsl 1 rc, .zsl 1 rk, .val (.int .i64 r), .val (.int .i64 d), .zsl 1 rs, .val (.int .i64 m)]] => hs = [] ∧ ∃ c k s, rc = icells c ∧ rk = icells k ∧ rs = icells s ∧ c.length ≤ 1048576 ∧ k.length ≤ 1048576 ∧ s.length ≤ 1048576 ∧ K (.agg [I n, .own 0, .own 1, I r, I d, .own 2, I m]) [.iarr c, .iarr k, .iarr s] []
  | _ => False⟩
theorem k_laws_toLink_n : Keeps' Tryd.prog 21 c_z_toLink := keeps_z k_laws_toLink rfl rfl rfl fun xs hs Fs K h => by
  simp only [c_z_toLink] at h
  split at h
  case h_2 => exact h.elim
  rename_i n rc rk r d rs m
  obtain ⟨rfl, c, k, s, rfl, rfl, rfl, h⟩ := h
  exact ⟨[.agg [I n, .ints c, .ints k, I r, I d, .ints s, I m]], ⟨rfl, h⟩, zs_agg rfl (zl_out (zs_lrow ⟨⟨n, c, k, r⟩, d, s, m⟩)).2, trivial⟩
theorem lkz_at {ls : List LkD} {i : Nat} {e : List AV} (h : (ls.map LkD.rowZ)[i]? = some e) : ∃ x, ls[i]? = some x ∧ e = LkD.rowZ x := by
  rw [List.getElem?_map] at h
  obtain ⟨x, hx, rfl⟩ := Option.map_eq_some_iff.1 h
  exact ⟨x, hx, rfl⟩
def c_z_toLinkS : Con := ⟨1, 0, true, fun xs hs _ K => match xs with
  | [.zsl 7 rows] => hs = [] ∧ ∃ ls : List LkD, rows = ls.map LkD.rowZ ∧ (∀ x ∈ ls, x.mid) ∧ ls.length ≤ 1048576 ∧ K (.own 0) [.arr 7 (ls.map LkD.row)] []
  | _ => False⟩
theorem k_laws_toLinkS_n : Keeps' Tryd.prog 8 c_z_toLinkS := by
  refine keeps_of_vc mix TyT_ok (cok_cons k_laws_toLink_n Tryd.func21 rfl rfl cok_nil) Tryd.func8 rfl rfl rfl ?_
  intro aargs hs Fs K h
  simp only [c_z_toLinkS] at h
  split at h
  case h_2 => exact h.elim
  rename_i rows
  obtain ⟨rfl, ls, rfl, hmid, hl, h⟩ := h
  have hlen : (ls.map LkD.rowZ).length = ls.length := by simp
  repeat' (first|((conv=>whnf); (first|refine brK_dec (fun _=>?_) (fun _=>?_)|refine brK_ndec (fun _=>?_) (fun _=>?_)|refine brK_not (fun _=>?_) (fun _=>?_)|refine brK_in (fun _=>?_) (fun _=>?_)|refine And.intro (by first|exact rfl|exact ⟨_,rfl,rfl⟩|exact ⟨rfl,rfl,rfl⟩|exact of_decide_eq_true rfl|exact trivial|assumption|omega|(show (_ ≤ _ ∧ _ ≤ _); omega)|(simp; omega)|exact ⟨by first|omega|(simp; omega),_,rfl,rfl⟩) ?_|refine Quo.l (And.intro (by first|exact rfl|assumption|omega|(simp; omega)) ?_)|refine Quo.r (And.intro (by omega) ?_)|refine Both.mk ?_ ?_|refine Exists.intro _ (And.intro rfl ?_)|refine fun _=>?_))|exact rfl)
  refine loop_in (ι := Nat) (fun i => mkS 23 [(0, .zsl 7 (ls.map LkD.rowZ)), (2, .val (.slice none 0 0)), (3, .own 0), (4, I i)] [.arr 7 (rowsTo ls i)] Fs) (fun i => i ≤ ls.length) (fun i => ls.length - i) 0 [0] (Nat.zero_le _) ?_ ?_
  · repeat' (first|((conv=>whnf); (first|refine brK_dec (fun _=>?_) (fun _=>?_)|refine brK_ndec (fun _=>?_) (fun _=>?_)|refine brK_not (fun _=>?_) (fun _=>?_)|refine brK_in (fun _=>?_) (fun _=>?_)|refine And.intro (by first|exact rfl|exact (rows_zero ls _ (by simp))|exact ⟨_,rfl,rfl⟩|exact ⟨rfl,rfl,rfl⟩|exact of_decide_eq_true rfl|exact trivial|assumption|omega|(show (_ ≤ _ ∧ _ ≤ _); omega)|(simp; omega)|exact ⟨by first|omega|(simp; omega),_,rfl,rfl⟩) ?_|refine Quo.l (And.intro (by first|exact rfl|exact (rows_zero ls _ (by simp))|assumption|omega|(simp; omega)) ?_)|refine Quo.r (And.intro (by omega) ?_)|refine Both.mk ?_ ?_|refine Exists.intro _ (And.intro rfl ?_)|refine fun _=>?_))|exact rfl)
  intro i hi
  have hrl := rows_len hi
  repeat' (first|((conv=>whnf); (first|refine brK_dec (fun _=>?_) (fun _=>?_)|refine brK_ndec (fun _=>?_) (fun _=>?_)|refine brK_not (fun _=>?_) (fun _=>?_)|refine brK_in (fun _=>?_) (fun _=>?_)|refine And.intro (by first|exact rfl|exact ⟨_,rfl,rfl⟩|exact ⟨rfl,rfl,rfl⟩|exact of_decide_eq_true rfl|exact trivial|assumption|omega|(show (_ ≤ _ ∧ _ ≤ _); omega)|(simp; omega)|exact ⟨by first|omega|(simp; omega),_,rfl,rfl⟩) ?_|refine Quo.l (And.intro (by first|exact rfl|assumption|omega|(simp; omega)) ?_)|refine Quo.r (And.intro (by omega) ?_)|refine Both.mk ?_ ?_|refine Exists.intro _ (And.intro rfl ?_)|refine fun _=>?_))|exact rfl)
  · rename_i hil e he
    obtain ⟨x, hx, rfl⟩ := lkz_at he
    have hx : ls[i]? = some x := hx
    obtain ⟨b1, b2, b3⟩ := hmid x (List.mem_of_getElem? hx)
    repeat' (first|((conv=>whnf); (first|refine Exists.intro x.e.c (Exists.intro x.e.k (Exists.intro x.s (And.intro rfl (And.intro rfl (And.intro rfl ?_)))))|refine brK_dec (fun _=>?_) (fun _=>?_)|refine brK_ndec (fun _=>?_) (fun _=>?_)|refine brK_not (fun _=>?_) (fun _=>?_)|refine brK_in (fun _=>?_) (fun _=>?_)|refine And.intro (by first|exact rfl|exact ⟨_,rfl,rfl⟩|exact ⟨rfl,rfl,rfl⟩|exact of_decide_eq_true rfl|exact trivial|assumption|omega|(show (_ ≤ _ ∧ _ ≤ _); omega)|(simp; omega)|exact ⟨by first|omega|(simp; omega),_,rfl,rfl⟩) ?_|refine Quo.l (And.intro (by first|exact rfl|assumption|omega|(simp; omega)) ?_)|refine Quo.r (And.intro (by omega) ?_)|refine Both.mk ?_ ?_|refine Exists.intro _ (And.intro rfl ?_)|refine fun _=>?_))|exact rfl)
    rename_i e he2
    have he2 : (rowsTo ls i)[i]? = some e := he2
    obtain rfl := rows_at (by omega) he2
    refine ⟨i + 1, [0], by omega, by omega, ?_⟩
    repeat' (first|((conv=>whnf); (first|refine brK_dec (fun _=>?_) (fun _=>?_)|refine brK_ndec (fun _=>?_) (fun _=>?_)|refine brK_not (fun _=>?_) (fun _=>?_)|refine brK_in (fun _=>?_) (fun _=>?_)|refine And.intro (by first|exact rfl|exact ((rows_set hx).symm)|exact ⟨_,rfl,rfl⟩|exact ⟨rfl,rfl,rfl⟩|exact of_decide_eq_true rfl|exact trivial|assumption|omega|(show (_ ≤ _ ∧ _ ≤ _); omega)|(simp; omega)|exact ⟨by first|omega|(simp; omega),_,rfl,rfl⟩) ?_|refine Quo.l (And.intro (by first|exact rfl|exact ((rows_set hx).symm)|assumption|omega|(simp; omega)) ?_)|refine Quo.r (And.intro (by omega) ?_)|refine Both.mk ?_ ?_|refine Exists.intro _ (And.intro rfl ?_)|refine fun _=>?_))|exact rfl)
  · rename_i hil
    have e : i = ls.length := by omega
    subst e
    rw [rows_all]
    exact h
end Go.Proofs.YtdljacpmoaeepaaDoor
