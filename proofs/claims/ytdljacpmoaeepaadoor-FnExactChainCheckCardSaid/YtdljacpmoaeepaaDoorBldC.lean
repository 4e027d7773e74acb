/-
The digits of a number: the reference's way.
No conditions.
-/
import Derived.Test.YtdljacpmoaeepaaDoorEvA
import Derived.Lib.ItoaNum
namespace Go.Proofs.YtdljacpmoaeepaaDoor
open Go Go.Vc
set_option maxHeartbeats 1000000
set_option maxRecDepth 100000
theorem dec_one (x : Nat) (h : x < 10) : Lib.decDigits x = [UInt8.ofNat (48 + x)] := by
  rw [Lib.decDigits, dif_pos h]
theorem dec_more (x : Nat) (h : ¬ x < 10) : Lib.decDigits x = Lib.decDigits (x / 10) ++ [UInt8.ofNat (48 + x % 10)] := by
  rw [Lib.decDigits, dif_neg h]
def c_dec (d : Nat) : Con := ⟨0, 0, false, fun xs hs _ K => match xs with
  | [.val (.int .i64 n)] => hs = [] ∧ 0 ≤ n ∧ n < 1000000 ∧ n < 10 ^ d ∧ d ≠ 0 ∧ K (.val (.string ⟨(Lib.decDigits n.toNat).toArray⟩)) [] []
  | _ => False⟩
theorem dec_len : ∀ (k u : Nat), u < 10 ^ (k + 1) → (Lib.decDigits u).length ≤ k + 1
  | 0, u, h => by
    rw [Lib.decDigits, dif_pos (by simpa using h)]
    simp
  | k + 1, u, h => by
    rw [Lib.decDigits]
    split
    · simp
    · have := dec_len k (u / 10) (by rw [Nat.pow_succ] at h; omega)
      simp
      omega
theorem dec_size {x : Nat} (hx : x < 1000000) (c : UInt8) : (⟨(Lib.decDigits x).toArray⟩ : ByteArray).size + (⟨#[c]⟩ : ByteArray).size ≤ 9223372036854775807 := by
  have := dec_len 5 x hx
  simp [ByteArray.size]
  omega
theorem dec_push {n : Int} (_h0 : 0 ≤ n) (h : ¬ n < 10) : (⟨(Lib.decDigits n.toNat).toArray⟩ : ByteArray) = ⟨(Lib.decDigits (n / 10).toNat).toArray⟩ ++ ⟨#[UInt8.ofNat (48 + n % 10).toNat]⟩ := by
  rw [dec_more _ (by omega)]
  have e1 : (n / 10).toNat = n.toNat / 10 := by omega
  have e2 : (48 + n % 10).toNat = 48 + n.toNat % 10 := by omega
  rw [e1, e2]
  apply ByteArray.ext
  simp
theorem pow_div {n : Int} {d : Nat} (h : n < 10 ^ (d + 1)) (h0 : 0 ≤ n) : n.tdiv 10 < 10 ^ d := by
  rw [Int.tdiv_eq_ediv_of_nonneg h0]
  have e : (10 : Int) ^ (d + 1) = 10 ^ d * 10 := Int.pow_succ ..
  rw [e] at h
  omega
theorem k_dec : ∀ d, Keeps' Tryd.prog 45 (c_dec d)
  | 0 => by
    rintro E args aargs hs Fs K h
    simp only [c_dec] at h
    split at h
    · exact absurd rfl h.2.2.2.2.1
    · exact h.elim
  | d + 1 => by
    refine keeps_of_vc mix TyT_ok (cok_cons (k_dec d) Tryd.func45 rfl rfl cok_nil) Tryd.func45 rfl rfl rfl ?_ (hfx := fun h => by cases h)
    intro aargs hs Fs K h
    simp only [c_dec] at h
    split at h
    case h_2 => exact h.elim
    rename_i n
    obtain ⟨rfl, h0, h1, h2, h3, h⟩ := h
    have hd : ¬ n < 10 → d ≠ 0 := by
      rintro h4 rfl
      simp at h2
      omega
    have e1 : n.tdiv 10 = n / 10 := Int.tdiv_eq_ediv_of_nonneg h0
    have e2 : n.tmod 10 = n % 10 := Int.tmod_eq_emod_of_nonneg h0
    have hq := pow_div h2 h0
    repeat' (first|((conv=>whnf); (first|refine draw_plan (id := 7) [] [] (.take 0 (.take 1 (.take 3 (.take 4 (.take 5 (.take 6 (.two 2 (.run 7 (.run 8 (.take 9 (.take 10 .done)))) 7 (.two 2 (.run 8 (.take 9 (.take 10 .done))) 8 (.run 2 (.take 9 (.take 10 .done))))))))))) (by kernel_rfl) (by kernel_rfl) ?_|refine brK_dec (fun _=>?_) (fun _=>?_)|refine brK_ndec (fun _=>?_) (fun _=>?_)|refine brK_not (fun _=>?_) (fun _=>?_)|refine brK_in (fun _=>?_) (fun _=>?_)|refine And.intro (by first|exact rfl|exact (by first|exact hd (by assumption)|(refine dec_size ?_ _; omega))|exact ⟨_,rfl,rfl⟩|exact ⟨rfl,rfl,rfl⟩|exact of_decide_eq_true rfl|exact trivial|assumption|omega|(show (_ ≤ _ ∧ _ ≤ _); omega)|(simp; omega)|exact ⟨by first|omega|(simp; omega),_,rfl,rfl⟩) ?_|refine Quo.l (And.intro (by first|exact rfl|exact (by first|exact hd (by assumption)|(refine dec_size ?_ _; omega))|assumption|omega|(simp; omega)) ?_)|refine Quo.r (And.intro (by omega) ?_)|refine Both.mk ?_ ?_|refine Exists.intro _ (And.intro rfl ?_)|refine fun _=>?_))|exact rfl)
    · exfalso; omega
    · exfalso; omega
    · rw [dec_one _ (by omega)] at h
      have e3 : (48 + n).toNat = 48 + n.toNat := by omega
      rw [e3]
      exact h
    all_goals (rw [dec_push h0 (by assumption)] at h; exact h)
def c_spec_l6Dec : Con := c_dec 4
theorem k_spec_l6Dec : Keeps' Tryd.prog 45 c_spec_l6Dec := k_dec 4
end Go.Proofs.YtdljacpmoaeepaaDoor
