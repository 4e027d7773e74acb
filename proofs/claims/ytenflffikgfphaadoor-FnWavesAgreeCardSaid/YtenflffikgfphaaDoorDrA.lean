/-
The reader of drawn numbers.
No conditions.
-/
import Derived.Test.YtenflffikgfphaaDoorEvA
namespace Go.Proofs.YtenflffikgfphaaDoor
open Go Go.Vc
set_option maxHeartbeats 1000000
set_option maxRecDepth 10000
theorem xor_nonneg {a b : Int} (ha : 0 ≤ a) (ha' : a < 4611686018427387904) (hb : 0 ≤ b) (hb' : b < 4611686018427387904) : 0 ≤ bits .xor .i64 a b := by
  obtain ⟨x, rfl⟩ := Int.eq_ofNat_of_zero_le ha
  obtain ⟨y, rfl⟩ := Int.eq_ofNat_of_zero_le hb
  have hx : x ^^^ y < 2 ^ 62 := Nat.xor_lt_two_pow (by omega) (by omega)
  have e : ∀ z : Nat, z < 9223372036854775808 → (BitVec.ofInt 64 (z : Int)).toNat = z := fun z hz => by
    rw [BitVec.ofInt_natCast, BitVec.toNat_ofNat]; exact Nat.mod_eq_of_lt (by omega)
  show 0 ≤ IntKind.i64.wrap ((BitVec.ofInt 64 (x : Int) ^^^ BitVec.ofInt 64 (y : Int)).toNat : Int)
  rw [BitVec.toNat_xor, e x (by omega), e y (by omega), rng_wrap (k := .i64) (show _ ≤ _ ∧ _ ≤ _ by omega)]
  omega
/-- The reader as an object: its bytes, and how many numbers were taken. -/
abbrev rdO (b : List UInt8) (off : Int) : AO := .cells [.bytes b, I off]
def c_spec_l6Rd_pick : Con := ⟨0, 1, false, fun xs hs _ K => match xs, hs with
  | [.ptr 0 0, .val (.int .i64 n)], [.cells [.bytes b, .val (.int .i64 off)]] =>
    b.length ≤ 2000 ∧ 0 ≤ off ∧ off ≤ 10000000 ∧ n ≤ 1000000 ∧ ∀ v, 0 ≤ v → (v = 0 ∨ v < n) → K (I v) [rdO b (off + 1)] []
  | _, _ => False⟩
theorem k_spec_l6Rd_pick : Keeps' Tryd.prog 39 c_spec_l6Rd_pick := by
  refine keeps_of_vc mix TyT_ok cok_nil Tryd.func39 rfl rfl rfl ?_
  intro aargs hs Fs K h
  simp only [c_spec_l6Rd_pick] at h
  split at h
  case h_2 => exact h.elim
  rename_i n b off
  obtain ⟨hb, h0, h1, hn, h⟩ := h
  repeat' (first
    | ((conv => whnf); (first
      | refine draw_plan (id := 7) [] [] (.take 0 (.take 1 (.take 2 (.take 3 (.take 4 (.take 5 (.take 6 (.take 7 (.take 8 (.take 9 (.take 10 (.take 11 (.take 12 (.take 13 (.take 14 (.take 15 (.take 16 (.take 17 (.take 18 (.take 19 (.take 20 (.take 21 (.take 22 (.take 23 (.take 24 (.take 25 (.take 26 (.take 27 (.take 28 (.take 29 (.take 30 (.take 31 (.take 32 (.take 33 (.take 34 (.take 35 (.take 36 (.take 37 (.take 38 (.take 39 (.take 40 (.take 41 (.take 42 (.take 43 (.take 44 (.take 45 .done)))))))))))))))))))))))))))))))))))))))))))))) (by kernel_rfl) (by kernel_rfl) ?_
      | refine brK_dec (fun _ => ?_) (fun _ => ?_)
      | refine brK_ndec (fun _ => ?_) (fun _ => ?_)
      | refine brK_not (fun _ => ?_) (fun _ => ?_)
      | refine brK_in (fun _ => ?_) (fun _ => ?_)
      | refine And.intro (by first | exact rfl | exact ⟨_, rfl, rfl⟩ | exact ⟨rfl, rfl, rfl⟩ | exact of_decide_eq_true rfl | exact trivial | assumption | omega | (show (_ ≤ _ ∧ _ ≤ _); omega) | (simp; omega) | exact ⟨by first | omega | (simp; omega), _, rfl, rfl⟩) ?_
      | refine Both.mk ?_ ?_
      | refine Exists.intro _ (And.intro rfl ?_)
      | refine fun _ => ?_))
    | exact rfl)
  · exact h _ (by omega) (.inl rfl)
  · exact h _ (by omega) (.inl rfl)
  · rename_i hn1 hb1 hlt x hx hx2
    have m1 := Int.emod_nonneg (x.toNat : Int) (b := n) (by omega)
    have m2 := Int.emod_lt_of_pos (x.toNat : Int) (b := n) (by omega)
    exact h _ m1 (.inr m2)
  · rename_i hn1 hb1 hlt
    have m1 := Int.emod_nonneg (off + 1 - 1) (b := (b.length : Int)) (by omega)
    have m2 := Int.emod_lt_of_pos (off + 1 - 1) (b := (b.length : Int)) (by omega)
    have m3 := Int.emod_nonneg ((off + 1 - 1) * 7 + 3) (b := (b.length : Int)) (by omega)
    have m4 := Int.emod_lt_of_pos ((off + 1 - 1) * 7 + 3) (b := (b.length : Int)) (by omega)
    have m5 : 0 ≤ (off + 1 - 1) / (b.length : Int) := Int.ediv_nonneg (by omega) (by omega)
    have m6 : (off + 1 - 1) / (b.length : Int) ≤ off + 1 - 1 := Int.ediv_le_self _ (by omega)
    repeat' (first
      | ((conv => whnf); (first
        | refine draw_plan (id := 7) [] [] (.take 0 (.take 1 (.take 2 (.take 3 (.take 4 (.take 5 (.take 6 (.take 7 (.take 8 (.take 9 (.take 10 (.take 11 (.take 12 (.take 13 (.take 14 (.take 15 (.take 16 (.take 17 (.take 18 (.take 19 (.take 20 (.take 21 (.take 22 (.take 23 (.take 24 (.take 25 (.take 26 (.take 27 (.take 28 (.take 29 (.take 30 (.take 31 (.take 32 (.take 33 (.take 34 (.take 35 (.take 36 (.take 37 (.take 38 (.take 39 (.take 40 (.take 41 (.take 42 (.take 43 (.take 44 (.take 45 .done)))))))))))))))))))))))))))))))))))))))))))))) (by kernel_rfl) (by kernel_rfl) ?_
        | refine brK_dec (fun _ => ?_) (fun _ => ?_)
        | refine brK_ndec (fun _ => ?_) (fun _ => ?_)
        | refine brK_not (fun _ => ?_) (fun _ => ?_)
        | refine brK_in (fun _ => ?_) (fun _ => ?_)
        | refine And.intro (by first | exact rfl | exact ⟨_, rfl, rfl⟩ | exact ⟨rfl, rfl, rfl⟩ | exact of_decide_eq_true rfl | exact trivial | assumption | omega | (show (_ ≤ _ ∧ _ ≤ _); omega) | (simp; omega) | exact ⟨by first | omega | (simp; omega), _, rfl, rfl⟩) ?_
        | refine Both.mk ?_ ?_
        | refine Exists.intro _ (And.intro rfl ?_)
        | refine fun _ => ?_))
      | exact rfl)
    rename_i x hx hx2 y hy hy2
    have p1 : 0 ≤ bits .xor .i64 ((x.toNat : Int) * 131 + y.toNat * 1117 + (off + 1 - 1) * 29 + (off + 1 - 1) / b.length * 53) (((x.toNat : Int) * 131 + y.toNat * 1117 + (off + 1 - 1) * 29 + (off + 1 - 1) / b.length * 53) / 64) :=
      xor_nonneg (by omega) (by omega) (by omega) (by omega)
    repeat' (first
      | ((conv => whnf); (first
        | refine brK_dec (fun _ => ?_) (fun _ => ?_)
        | refine brK_ndec (fun _ => ?_) (fun _ => ?_)
        | refine brK_not (fun _ => ?_) (fun _ => ?_)
        | refine brK_in (fun _ => ?_) (fun _ => ?_)
        | refine And.intro (by first | exact rfl | exact ⟨_, rfl, rfl⟩ | exact ⟨rfl, rfl, rfl⟩ | exact of_decide_eq_true rfl | exact trivial | assumption | omega | (show (_ ≤ _ ∧ _ ≤ _); omega) | (simp; omega) | exact ⟨by first | omega | (simp; omega), _, rfl, rfl⟩) ?_
        | refine Both.mk ?_ ?_
        | refine Exists.intro _ (And.intro rfl ?_)
        | refine fun _ => ?_))
      | exact rfl)
    exact h _ (Int.emod_nonneg _ (by omega)) (.inr (Int.emod_lt_of_pos _ (by omega)))
end Go.Proofs.YtenflffikgfphaaDoor
