/-
The reader of drawn numbers.
Drawn committees, keys and digests.
Drawn epochs.
The drawn epoch of the law on valid epochs.
No conditions.
-/
import Derived.Test.YtalbgcpfekmfoaaEvA
import Derived.Test.YtalbgcpfekmfoaaCpA
namespace Go.Proofs.Ytalbgcpfekmfoaa
open Go Go.Vc
set_option maxHeartbeats 1000000
set_option maxRecDepth 10000
theorem xor_nonneg {a b : Int} (ha : 0 ≤ a) (ha' : a < 4611686018427387904) (hb : 0 ≤ b) (hb' : b < 4611686018427387904) : 0 ≤ bits .xor .i64 a b := by
  obtain ⟨x, rfl⟩ := Int.eq_ofNat_of_zero_le ha
  obtain ⟨y, rfl⟩ := Int.eq_ofNat_of_zero_le hb
  have hx : x ^^^ y < 2 ^ 62 := Nat.xor_lt_two_pow (by omega) (by omega)
  have e : ∀ z : Nat, z < 9223372036854775808 → (BitVec.ofInt 64 (z : Int)).toNat = z := fun z hz => by
    rw [BitVec.ofInt_natCast, BitVec.toNat_ofNat]; exact Nat.mod_eq_of_lt (by omega)
  show 0 ≤ IntKind.i64.wrap ((BitVec.ofInt 64 (x : Int) ^^^ BitVec.ofInt 64 (y : Int)).toNat : Int)
  rw [BitVec.toNat_xor, e x (by omega), e y (by omega), rng_wrap (k := .i64) (show _ ≤ _ ∧ _ ≤ _ by omega)]
  omega
/-- The reader as an object: its bytes, and how many numbers were taken. -/
abbrev rdO (b : List UInt8) (off : Int) : AO := .cells [.bytes b, I off]
def c_spec_l6Rd_pick : Con := ⟨0, 1, false, fun xs hs _ K => match xs, hs with
  | [.ptr 0 0, .val (.int .i64 n)], [.cells [.bytes b, .val (.int .i64 off)]] =>
    b.length ≤ 2000 ∧ 0 ≤ off ∧ off ≤ 10000000 ∧ n ≤ 1000000 ∧ ∀ v, 0 ≤ v → (v = 0 ∨ v < n) → K (I v) [rdO b (off + 1)] []
  | _, _ => False⟩
theorem k_spec_l6Rd_pick : Keeps' Try.prog 37 c_spec_l6Rd_pick := by
  refine keeps_of_vc mix TyT_ok cok_nil Try.func37 rfl rfl rfl ?_
  intro aargs hs Fs K h
  simp only [c_spec_l6Rd_pick] at h
  split at h
  case h_2 => exact h.elim
  rename_i n b off
  obtain ⟨hb, h0, h1, hn, h⟩ := h
  repeat' (first|((conv=>whnf); (first|refine draw_plan (id := 7) [] [] (.take 0 (.take 1 (.take 2 (.take 3 (.take 4 (.take 5 (.take 6 (.take 7 (.take 8 (.take 9 (.take 10 (.take 11 (.take 12 (.take 13 (.take 14 (.take 15 (.take 16 (.take 17 (.take 18 (.take 19 (.take 20 (.take 21 (.take 22 (.take 23 (.take 24 (.take 25 (.take 26 (.take 27 (.take 28 (.take 29 (.take 30 (.take 31 (.take 32 (.take 33 (.take 34 (.take 35 (.take 36 (.take 37 (.take 38 (.take 39 (.take 40 (.take 41 (.take 42 (.take 43 (.take 44 (.take 45 .done)))))))))))))))))))))))))))))))))))))))))))))) (by kernel_rfl) (by kernel_rfl) ?_|refine brK_dec (fun _=>?_) (fun _=>?_)|refine brK_ndec (fun _=>?_) (fun _=>?_)|refine brK_not (fun _=>?_) (fun _=>?_)|refine brK_in (fun _=>?_) (fun _=>?_)|refine And.intro (by first|exact rfl|exact ⟨_,rfl,rfl⟩|exact ⟨rfl,rfl,rfl⟩|exact of_decide_eq_true rfl|exact trivial|assumption|omega|(show (_ ≤ _ ∧ _ ≤ _); omega)|(simp; omega)|exact ⟨by first|omega|(simp; omega),_,rfl,rfl⟩) ?_|refine Quo.l (And.intro (by first|exact rfl|assumption|omega|(simp; omega)) ?_)|refine Quo.r (And.intro (by omega) ?_)|refine Both.mk ?_ ?_|refine Exists.intro _ (And.intro rfl ?_)|refine fun _=>?_))|exact rfl)
  · exact h _ (by omega) (.inl rfl)
  · exact h _ (by omega) (.inl rfl)
  · rename_i hn1 hb1 hlt x hx hx2
    have m1 := Int.emod_nonneg (x.toNat : Int) (b := n) (by omega)
    have m2 := Int.emod_lt_of_pos (x.toNat : Int) (b := n) (by omega)
    exact h _ m1 (.inr m2)
  · rename_i hn1 hb1 hlt
    have m1 := Int.emod_nonneg (off + 1 - 1) (b := (b.length : Int)) (by omega)
    have m2 := Int.emod_lt_of_pos (off + 1 - 1) (b := (b.length : Int)) (by omega)
    have m3 := Int.emod_nonneg ((off + 1 - 1) * 7 + 3) (b := (b.length : Int)) (by omega)
    have m4 := Int.emod_lt_of_pos ((off + 1 - 1) * 7 + 3) (b := (b.length : Int)) (by omega)
    have m5 : 0 ≤ (off + 1 - 1) / (b.length : Int) := Int.ediv_nonneg (by omega) (by omega)
    have m6 : (off + 1 - 1) / (b.length : Int) ≤ off + 1 - 1 := Int.ediv_le_self _ (by omega)
    repeat' (first|((conv=>whnf); (first|refine draw_plan (id := 7) [] [] (.take 0 (.take 1 (.take 2 (.take 3 (.take 4 (.take 5 (.take 6 (.take 7 (.take 8 (.take 9 (.take 10 (.take 11 (.take 12 (.take 13 (.take 14 (.take 15 (.take 16 (.take 17 (.take 18 (.take 19 (.take 20 (.take 21 (.take 22 (.take 23 (.take 24 (.take 25 (.take 26 (.take 27 (.take 28 (.take 29 (.take 30 (.take 31 (.take 32 (.take 33 (.take 34 (.take 35 (.take 36 (.take 37 (.take 38 (.take 39 (.take 40 (.take 41 (.take 42 (.take 43 (.take 44 (.take 45 .done)))))))))))))))))))))))))))))))))))))))))))))) (by kernel_rfl) (by kernel_rfl) ?_|refine brK_dec (fun _=>?_) (fun _=>?_)|refine brK_ndec (fun _=>?_) (fun _=>?_)|refine brK_not (fun _=>?_) (fun _=>?_)|refine brK_in (fun _=>?_) (fun _=>?_)|refine And.intro (by first|exact rfl|exact ⟨_,rfl,rfl⟩|exact ⟨rfl,rfl,rfl⟩|exact of_decide_eq_true rfl|exact trivial|assumption|omega|(show (_ ≤ _ ∧ _ ≤ _); omega)|(simp; omega)|exact ⟨by first|omega|(simp; omega),_,rfl,rfl⟩) ?_|refine Quo.l (And.intro (by first|exact rfl|assumption|omega|(simp; omega)) ?_)|refine Quo.r (And.intro (by omega) ?_)|refine Both.mk ?_ ?_|refine Exists.intro _ (And.intro rfl ?_)|refine fun _=>?_))|exact rfl)
    rename_i x hx hx2 y hy hy2
    have p1 : 0 ≤ bits .xor .i64 ((x.toNat : Int) * 131 + y.toNat * 1117 + (off + 1 - 1) * 29 + (off + 1 - 1) / b.length * 53) (((x.toNat : Int) * 131 + y.toNat * 1117 + (off + 1 - 1) * 29 + (off + 1 - 1) / b.length * 53) / 64) :=
      xor_nonneg (by omega) (by omega) (by omega) (by omega)
    repeat' (first|((conv=>whnf); (first|refine brK_dec (fun _=>?_) (fun _=>?_)|refine brK_ndec (fun _=>?_) (fun _=>?_)|refine brK_not (fun _=>?_) (fun _=>?_)|refine brK_in (fun _=>?_) (fun _=>?_)|refine And.intro (by first|exact rfl|exact ⟨_,rfl,rfl⟩|exact ⟨rfl,rfl,rfl⟩|exact of_decide_eq_true rfl|exact trivial|assumption|omega|(show (_ ≤ _ ∧ _ ≤ _); omega)|(simp; omega)|exact ⟨by first|omega|(simp; omega),_,rfl,rfl⟩) ?_|refine Quo.l (And.intro (by first|exact rfl|assumption|omega|(simp; omega)) ?_)|refine Quo.r (And.intro (by omega) ?_)|refine Both.mk ?_ ?_|refine Exists.intro _ (And.intro rfl ?_)|refine fun _=>?_))|exact rfl)
    exact h _ (Int.emod_nonneg _ (by omega)) (.inr (Int.emod_lt_of_pos _ (by omega)))
end Go.Proofs.Ytalbgcpfekmfoaa
namespace Go.Proofs.Ytalbgcpfekmfoaa
open Go Go.Vc
set_option maxHeartbeats 1000000
set_option maxRecDepth 10000
def c_spec_KeyPublic : Con := ⟨0, 0, false, fun xs hs _ K => match xs with
  | [.val (.int .i64 a)] => hs = [] ∧ K (I (if inR a 1 996 then a * 5 % 997 else 0)) [] []
  | _ => False⟩
def c_spec_l91Committee : Con := ⟨1, 1, false, fun xs hs _ K => match xs, hs with
  | [.ptr 0 0], [.cells [.bytes b, .val (.int .i64 off)]] =>
    b.length ≤ 2000 ∧ 0 ≤ off ∧ off ≤ 1000000 ∧ ∀ off' l r, off ≤ off' → off' ≤ off + 100 → l.length ≤ 20 → (r = .own 1 ∨ r = .sub 1 0 0) → (∀ x ∈ l, -1 ≤ x ∧ x ≤ 10) → K r [rdO b off', .iarr l] []
  | _, _ => False⟩
theorem k_spec_l91Committee : Keeps' Try.prog 68 c_spec_l91Committee := by
  refine keeps_of_vc mix TyT_ok (cok_cons k_spec_l6Rd_pick Try.func37 rfl rfl cok_nil) Try.func68 rfl rfl rfl ?_
  intro aargs hs Fs K h
  simp only [c_spec_l91Committee] at h
  split at h
  case h_2 => exact h.elim
  rename_i b off
  obtain ⟨hb, h0, h1, h⟩ := h
  repeat' (first|((conv=>whnf); (first|refine brK_dec (fun _=>?_) (fun _=>?_)|refine brK_ndec (fun _=>?_) (fun _=>?_)|refine brK_not (fun _=>?_) (fun _=>?_)|refine brK_in (fun _=>?_) (fun _=>?_)|refine And.intro (by first|exact rfl|exact ⟨_,rfl,rfl⟩|exact ⟨rfl,rfl,rfl⟩|exact of_decide_eq_true rfl|exact trivial|assumption|omega|(show (_ ≤ _ ∧ _ ≤ _); omega)|(simp; omega)|exact ⟨by first|omega|(simp; omega),_,rfl,rfl⟩) ?_|refine Quo.l (And.intro (by first|exact rfl|assumption|omega|(simp; omega)) ?_)|refine Quo.r (And.intro (by omega) ?_)|refine Both.mk ?_ ?_|refine Exists.intro _ (And.intro rfl ?_)|refine fun _=>?_))|exact rfl)
  rename_i v hv0 hv1 m hm
  have hm' : 1 ≤ m ∧ m ≤ 7 := by
    have := List.mem_of_getElem? hm
    simp at this
    omega
  refine loop_in (ι := Nat × Int × List Int) (fun g => mkS 51 [(0, .ptr 0 0), (3, .own 1), (4, I m), (5, I g.1)] [rdO b g.2.1, .iarr g.2.2] Fs)
    (fun g => (g.1 : Int) ≤ m ∧ off ≤ g.2.1 ∧ g.2.1 ≤ off + 1 + 2 * g.1 ∧ g.2.2.length = g.1 ∧ ∀ x ∈ g.2.2, -1 ≤ x ∧ x ≤ 10) (fun g => m.toNat - g.1) (0, off + 1, []) [0, 1] ⟨by simp; omega, by simp; omega, by simp, rfl, by simp⟩ ?_ ?_
  · repeat' (first|((conv=>whnf); (first|refine brK_dec (fun _=>?_) (fun _=>?_)|refine brK_ndec (fun _=>?_) (fun _=>?_)|refine brK_not (fun _=>?_) (fun _=>?_)|refine brK_in (fun _=>?_) (fun _=>?_)|refine And.intro (by first|exact rfl|exact ⟨_,rfl,rfl⟩|exact ⟨rfl,rfl,rfl⟩|exact of_decide_eq_true rfl|exact trivial|assumption|omega|(show (_ ≤ _ ∧ _ ≤ _); omega)|(simp; omega)|exact ⟨by first|omega|(simp; omega),_,rfl,rfl⟩) ?_|refine Quo.l (And.intro (by first|exact rfl|assumption|omega|(simp; omega)) ?_)|refine Quo.r (And.intro (by omega) ?_)|refine Both.mk ?_ ?_|refine Exists.intro _ (And.intro rfl ?_)|refine fun _=>?_))|exact rfl)
  rintro ⟨i, off1, l⟩ ⟨hi, ho1, ho2, hl, hx⟩
  dsimp only at hi ho1 ho2 hl hx ⊢
  repeat' (first|((conv=>whnf); (first|refine brK_dec (fun _=>?_) (fun _=>?_)|refine brK_ndec (fun _=>?_) (fun _=>?_)|refine brK_not (fun _=>?_) (fun _=>?_)|refine brK_in (fun _=>?_) (fun _=>?_)|refine And.intro (by first|exact rfl|exact ⟨_,rfl,rfl⟩|exact ⟨rfl,rfl,rfl⟩|exact of_decide_eq_true rfl|exact trivial|assumption|omega|(show (_ ≤ _ ∧ _ ≤ _); omega)|(simp; omega)|exact ⟨by first|omega|(simp; omega),_,rfl,rfl⟩) ?_|refine Quo.l (And.intro (by first|exact rfl|assumption|omega|(simp; omega)) ?_)|refine Quo.r (And.intro (by omega) ?_)|refine Both.mk ?_ ?_|refine Exists.intro _ (And.intro rfl ?_)|refine fun _=>?_))|exact rfl)
  · rename_i him x hx0 hx1 y hy0 hy1
    have p0 : 0 ≤ x * y := Int.mul_nonneg hx0 hy0
    have p1 : x * y ≤ 3 * 2 := Int.mul_le_mul (by omega) (by omega) hy0 (by omega)
    repeat' (first|((conv=>whnf); (first|refine brK_dec (fun _=>?_) (fun _=>?_)|refine brK_ndec (fun _=>?_) (fun _=>?_)|refine brK_not (fun _=>?_) (fun _=>?_)|refine brK_in (fun _=>?_) (fun _=>?_)|refine And.intro (by first|exact rfl|exact ⟨_,rfl,rfl⟩|exact ⟨rfl,rfl,rfl⟩|exact of_decide_eq_true rfl|exact trivial|assumption|omega|(show (_ ≤ _ ∧ _ ≤ _); omega)|(simp; omega)|exact ⟨by first|omega|(simp; omega),_,rfl,rfl⟩) ?_|refine Quo.l (And.intro (by first|exact rfl|assumption|omega|(simp; omega)) ?_)|refine Quo.r (And.intro (by omega) ?_)|refine Both.mk ?_ ?_|refine Exists.intro _ (And.intro rfl ?_)|refine fun _=>?_))|exact rfl)
    refine ⟨(i + 1, off1 + 1 + 1, l.take l.length ++ [1 + x * y / 2]), [0, 1], ⟨?_, ?_, ?_, ?_, ?_⟩, ?_, ?_⟩
    · dsimp only; omega
    · dsimp only; omega
    · dsimp only; omega
    · dsimp only; simp; omega
    · dsimp only
      intro z hz
      rw [List.take_length] at hz
      rcases List.mem_append.1 hz with hz | hz
      · exact hx z hz
      · simp at hz; omega
    · dsimp only; omega
    · repeat' (first|((conv=>whnf); (first|refine brK_dec (fun _=>?_) (fun _=>?_)|refine brK_ndec (fun _=>?_) (fun _=>?_)|refine brK_not (fun _=>?_) (fun _=>?_)|refine brK_in (fun _=>?_) (fun _=>?_)|refine And.intro (by first|exact rfl|exact ⟨_,rfl,rfl⟩|exact ⟨rfl,rfl,rfl⟩|exact of_decide_eq_true rfl|exact trivial|assumption|omega|(show (_ ≤ _ ∧ _ ≤ _); omega)|(simp; omega)|exact ⟨by first|omega|(simp; omega),_,rfl,rfl⟩) ?_|refine Quo.l (And.intro (by first|exact rfl|assumption|omega|(simp; omega)) ?_)|refine Quo.r (And.intro (by omega) ?_)|refine Both.mk ?_ ?_|refine Exists.intro _ (And.intro rfl ?_)|refine fun _=>?_))|exact rfl)
  · refine h _ _ _ (by omega) (by omega) (by simp; omega) (.inl rfl) fun z hz => ?_
    rw [List.take_length] at hz
    rcases List.mem_append.1 hz with hz | hz
    · exact hx z hz
    · simp at hz; omega
  · rename_i q hq
    refine h _ _ _ (by omega) (by omega) (by simp; omega) (.inl rfl) fun z hz => ?_
    rcases List.mem_or_eq_of_mem_set hz with hz | hz
    · exact hx z hz
    · have := List.mem_of_getElem? hq
      simp at this
      omega
  · exact h _ _ _ (by omega) (by omega) (by omega) (.inr rfl) hx
  · exact h _ _ _ (by omega) (by omega) (by omega) (.inl rfl) hx
def c_spec_l91Good : Con := ⟨1, 1, false, fun xs hs _ K => match xs, hs with
  | [.ptr 0 0], [.cells [.bytes b, .val (.int .i64 off)]] =>
    b.length ≤ 2000 ∧ 0 ≤ off ∧ off ≤ 1000000 ∧ ∀ off' l, off ≤ off' → off' ≤ off + 100 → l.length ≤ 20 → comV l = true → K (.own 1) [rdO b off', .iarr l] []
  | _, _ => False⟩
theorem k_spec_l91Good : Keeps' Try.prog 65 c_spec_l91Good := by
  refine keeps_of_vc mix TyT_ok (cok_cons k_spec_l91Committee Try.func68 rfl rfl (cok_cons k_spec_CommitteeValid Try.func69 rfl rfl cok_nil)) Try.func65 rfl rfl rfl ?_
  intro aargs hs Fs K h
  simp only [c_spec_l91Good] at h
  split at h
  case h_2 => exact h.elim
  rename_i b off
  obtain ⟨hb, h0, h1, h⟩ := h
  repeat' (first|((conv=>whnf); (first|refine brK_dec (fun _=>?_) (fun _=>?_)|refine brK_ndec (fun _=>?_) (fun _=>?_)|refine brK_not (fun _=>?_) (fun _=>?_)|refine brK_in (fun _=>?_) (fun _=>?_)|refine And.intro (by first|exact rfl|exact ⟨_,rfl,rfl⟩|exact ⟨rfl,rfl,rfl⟩|exact of_decide_eq_true rfl|exact trivial|assumption|omega|(show (_ ≤ _ ∧ _ ≤ _); omega)|(simp; omega)|exact ⟨by first|omega|(simp; omega),_,rfl,rfl⟩) ?_|refine Quo.l (And.intro (by first|exact rfl|assumption|omega|(simp; omega)) ?_)|refine Quo.r (And.intro (by omega) ?_)|refine Both.mk ?_ ?_|refine Exists.intro _ (And.intro rfl ?_)|refine fun _=>?_))|exact rfl)
  rename_i off1 l r ho1 ho2 hl hr hx
  rcases hr with rfl | rfl
  · repeat' (first|((conv=>whnf); (first|refine brK_dec (fun _=>?_) (fun _=>?_)|refine brK_ndec (fun _=>?_) (fun _=>?_)|refine brK_not (fun _=>?_) (fun _=>?_)|refine brK_in (fun _=>?_) (fun _=>?_)|refine And.intro (by first|exact rfl|exact ⟨_,rfl,rfl⟩|exact ⟨rfl,rfl,rfl⟩|exact of_decide_eq_true rfl|exact trivial|assumption|omega|(show (_ ≤ _ ∧ _ ≤ _); omega)|(simp; omega)|exact ⟨by first|omega|(simp; omega),_,rfl,rfl⟩) ?_|refine Quo.l (And.intro (by first|exact rfl|assumption|omega|(simp; omega)) ?_)|refine Quo.r (And.intro (by omega) ?_)|refine Both.mk ?_ ?_|refine Exists.intro _ (And.intro rfl ?_)|refine fun _=>?_))|exact rfl)
    · rename_i hv
      exact h _ _ ho1 ho2 (by simp) (by decide)
    · rename_i hv
      exact h _ _ ho1 ho2 hl hv
  · repeat' (first|((conv=>whnf); (first|refine brK_dec (fun _=>?_) (fun _=>?_)|refine brK_ndec (fun _=>?_) (fun _=>?_)|refine brK_not (fun _=>?_) (fun _=>?_)|refine brK_in (fun _=>?_) (fun _=>?_)|refine And.intro (by first|exact rfl|exact ⟨_,rfl,rfl⟩|exact ⟨rfl,rfl,rfl⟩|exact of_decide_eq_true rfl|exact trivial|assumption|omega|(show (_ ≤ _ ∧ _ ≤ _); omega)|(simp; omega)|exact ⟨by first|omega|(simp; omega),_,rfl,rfl⟩) ?_|refine Quo.l (And.intro (by first|exact rfl|assumption|omega|(simp; omega)) ?_)|refine Quo.r (And.intro (by omega) ?_)|refine Both.mk ?_ ?_|refine Exists.intro _ (And.intro rfl ?_)|refine fun _=>?_))|exact rfl)
    exact h _ _ ho1 ho2 (by simp) (by decide)
def c_spec_l91Secrets : Con := ⟨1, 1, false, fun xs hs _ K => match xs, hs with
  | [.ptr 0 0, .val (.int .i64 n)], [.cells [.bytes b, .val (.int .i64 off)]] =>
    b.length ≤ 2000 ∧ 0 ≤ off ∧ off ≤ 1000000 ∧ 0 ≤ n ∧ n ≤ 20 ∧ ∀ off' l, off ≤ off' → off' ≤ off + 100 → (l.length : Int) = n → (∀ x ∈ l, 1 ≤ x ∧ x ≤ 3000) → K (.own 1) [rdO b off', .iarr l] []
  | _, _ => False⟩
def c_spec_l91Keys : Con := ⟨1, 0, false, fun xs hs _ K => match xs with
  | [.ints s] => hs = [] ∧ s.length ≤ 20 ∧ (∀ x ∈ s, 1 ≤ x ∧ x ≤ 3000) ∧ ∀ l, l.length = s.length → (∀ x ∈ l, 0 ≤ x ∧ x ≤ 996) → K (.own 0) [.iarr l] []
  | _ => False⟩
end Go.Proofs.Ytalbgcpfekmfoaa
namespace Go.Proofs.Ytalbgcpfekmfoaa
open Go Go.Vc
set_option maxHeartbeats 1000000
set_option maxRecDepth 10000
def c_spec_l91Key : Con := ⟨0, 1, false, fun xs hs _ K => match xs, hs with
  | [.ptr 0 0], [.cells [.bytes b, .val (.int .i64 off)]] =>
    b.length ≤ 2000 ∧ 0 ≤ off ∧ off ≤ 1000000 ∧ ∀ off' v, off ≤ off' → off' ≤ off + 3 → -1 ≤ v → v ≤ 1000 → K (I v) [rdO b off'] []
  | _, _ => False⟩
def c_spec_l91Digest : Con := ⟨0, 1, false, fun xs hs _ K => match xs, hs with
  | [.ptr 0 0], [.cells [.bytes b, .val (.int .i64 off)]] =>
    b.length ≤ 2000 ∧ 0 ≤ off ∧ off ≤ 1000000 ∧ ∀ off' v, off ≤ off' → off' ≤ off + 3 → -1 ≤ v → v ≤ 1000 → K (I v) [rdO b off'] []
  | _, _ => False⟩
theorem k_spec_l91Digest : Keeps' Try.prog 39 c_spec_l91Digest := by
  refine keeps_of_vc mix TyT_ok (cok_cons k_spec_l6Rd_pick Try.func37 rfl rfl cok_nil) Try.func39 rfl rfl rfl ?_
  intro aargs hs Fs K h
  simp only [c_spec_l91Digest] at h
  split at h
  case h_2 => exact h.elim
  rename_i b off
  obtain ⟨hb, h0, h1, h⟩ := h
  repeat' (first|((conv=>whnf); (first|refine brK_dec (fun _=>?_) (fun _=>?_)|refine brK_ndec (fun _=>?_) (fun _=>?_)|refine brK_not (fun _=>?_) (fun _=>?_)|refine brK_in (fun _=>?_) (fun _=>?_)|refine And.intro (by first|exact rfl|exact ⟨_,rfl,rfl⟩|exact ⟨rfl,rfl,rfl⟩|exact of_decide_eq_true rfl|exact trivial|assumption|omega|(show (_ ≤ _ ∧ _ ≤ _); omega)|(simp; omega)|exact ⟨by first|omega|(simp; omega),_,rfl,rfl⟩) ?_|refine Quo.l (And.intro (by first|exact rfl|assumption|omega|(simp; omega)) ?_)|refine Quo.r (And.intro (by omega) ?_)|refine Both.mk ?_ ?_|refine Exists.intro _ (And.intro rfl ?_)|refine fun _=>?_))|exact rfl)
  · rename_i q hq
    have := List.mem_of_getElem? hq
    simp at this
    exact h _ _ (by omega) (by omega) (by omega) (by omega)
  · exact h _ _ (by omega) (by omega) (by omega) (by omega)
def c_spec_l92Spoilt : Con := ⟨2, 1, false, fun xs hs _ K => match xs, hs with
  | [.ptr 0 0, .agg [.val (.int .i64 _), .ints c, .ints k, .val (.int .i64 _)]], [.cells [.bytes b, .val (.int .i64 off)]] =>
    b.length ≤ 2000 ∧ 0 ≤ off ∧ off ≤ 900000 ∧ 1 ≤ c.length ∧ c.length ≤ 20 ∧ k.length = c.length ∧
      ∀ off' n' c' k' r', off ≤ off' → off' ≤ off + 10 → c'.length ≤ 20 → k'.length ≤ 21 → K (.agg [I n', .own 1, .own 2, I r']) [rdO b off', .iarr c', .iarr k'] []
  | _, _ => False⟩
end Go.Proofs.Ytalbgcpfekmfoaa
namespace Go.Proofs.Ytalbgcpfekmfoaa
open Go Go.Vc
set_option maxHeartbeats 1000000
set_option maxRecDepth 10000
def c_spec_l6Open : Con := ⟨1, 0, false, fun xs hs _ K => match xs with
  | [.bytes b] => hs = [] ∧ b.length ≤ 1048576 ∧ ∀ b', b'.length ≤ 2000 → K (.ptr 0 0) [rdO b' 0] []
  | _ => False⟩
theorem k_spec_l6Open : Keeps' Try.prog 35 c_spec_l6Open := by
  refine keeps_of_vc mix TyT_ok cok_nil Try.func35 rfl rfl rfl ?_
  intro aargs hs Fs K h
  simp only [c_spec_l6Open] at h
  split at h
  case h_2 => exact h.elim
  rename_i b
  obtain ⟨rfl, hb, h⟩ := h
  repeat' (first|((conv=>whnf); (first|refine brK_dec (fun _=>?_) (fun _=>?_)|refine brK_ndec (fun _=>?_) (fun _=>?_)|refine brK_not (fun _=>?_) (fun _=>?_)|refine brK_in (fun _=>?_) (fun _=>?_)|refine And.intro (by first|exact rfl|exact ⟨_,rfl,rfl⟩|exact ⟨rfl,rfl,rfl⟩|exact of_decide_eq_true rfl|exact trivial|assumption|omega|(show (_ ≤ _ ∧ _ ≤ _); omega)|(simp; omega)|exact ⟨by first|omega|(simp; omega),_,rfl,rfl⟩) ?_|refine Quo.l (And.intro (by first|exact rfl|assumption|omega|(simp; omega)) ?_)|refine Quo.r (And.intro (by omega) ?_)|refine Both.mk ?_ ?_|refine Exists.intro _ (And.intro rfl ?_)|refine fun _=>?_))|exact rfl)
  · exact h _ (by simp; omega)
  · exact h _ (by omega)
def c_spec_l92Epoch : Con := ⟨3, 1, false, fun xs hs _ K => match xs, hs with
  | [.ptr 0 0], [.cells [.bytes b, .val (.int .i64 off)]] =>
    b.length ≤ 2000 ∧ 0 ≤ off ∧ off ≤ 900000 ∧ ∀ off' n c k r s, off ≤ off' → off' ≤ off + 300 → 0 ≤ n → n ≤ 99 → 0 ≤ r → r ≤ 990 → 1 ≤ c.length → c.length ≤ 20 → comV c = true → k.length = c.length → s.length = c.length →
      K (.tup [.agg [I n, .own 1, .own 2, I r], .own 3]) [rdO b off', .iarr c, .iarr k, .iarr s] []
  | _, _ => False⟩
theorem comV_pos {c : List Int} (h : comV c = true) : 1 ≤ c.length := by
  simp [comV, inR] at h
  omega
end Go.Proofs.Ytalbgcpfekmfoaa
