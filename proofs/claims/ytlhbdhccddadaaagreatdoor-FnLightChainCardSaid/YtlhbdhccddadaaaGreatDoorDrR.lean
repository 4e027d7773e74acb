/-
Drawn receipts, with the reference's root and proof of them.
No conditions.
-/
import Derived.Test.YtlhbdhccddadaaaGreatDoorRtA
import Derived.Test.YtlhbdhccddadaaaGreatDoorDrC
import Derived.Test.YtlhbdhccddadaaaGreatDoorVcCut
namespace Go.Proofs.YtlhbdhccddadaaaGreatDoor
open Go Go.Vc
set_option maxHeartbeats 4000000
set_option maxRecDepth 10000
/-- A receipt's cells: its place, whether it was done, its digest. -/
abbrev rcRow (x : Int × Bool × Int) : List AV := [I x.1, .val (.bool x.2.1), I x.2.2]
theorem rc_at {l : List (Int × Bool × Int)} {i : Nat} {e : List AV} (h : (l.map rcRow)[i]? = some e) : ∃ x, l[i]? = some x ∧ e = rcRow x := by
  rw [List.getElem?_map] at h
  obtain ⟨x, hx, rfl⟩ := Option.map_eq_some_iff.1 h
  exact ⟨x, hx, rfl⟩
def c_spec_l33List : Con := ⟨0, 0, false, fun xs hs _ K => match xs with
  | [.sl 3 rows] => hs = [] ∧ ∃ rs : List (Int × Bool × Int), rows = rs.map rcRow ∧ rs.length < 2000000 ∧ ∀ b, K (B b) [] []
  | _ => False⟩
theorem k_spec_l33List : Keeps' Tryz.prog 73 c_spec_l33List := by
  refine keeps_of_vc mix TyT_ok (cok_cons k_spec_l33Receipt Tryz.func77 rfl rfl (cok_cons k_spec_l6In Tryz.func54 rfl rfl cok_nil)) Tryz.func73 rfl rfl rfl ?_
  intro aargs hs Fs K h
  simp only [c_spec_l33List] at h
  split at h
  case h_2 => exact h.elim
  rename_i rows
  obtain ⟨rfl, rs, rfl, hl, h⟩ := h
  have hlen : (rs.map rcRow).length = rs.length := by simp
  repeat' (first
    | ((conv => whnf); (first
      | refine brK_dec (fun _ => ?_) (fun _ => ?_)
      | refine brK_ndec (fun _ => ?_) (fun _ => ?_)
      | refine brK_not (fun _ => ?_) (fun _ => ?_)
      | refine brK_in (fun _ => ?_) (fun _ => ?_)
      | refine And.intro (by first | exact rfl | exact ⟨_, rfl, rfl⟩ | exact ⟨rfl, rfl, rfl⟩ | exact of_decide_eq_true rfl | exact trivial | assumption | omega | (show (_ ≤ _ ∧ _ ≤ _); omega) | (simp; omega) | exact ⟨by first | omega | (simp; omega), _, rfl, rfl⟩) ?_
      | refine Both.mk ?_ ?_
      | refine Exists.intro _ (And.intro rfl ?_)
      | refine fun _ => ?_))
    | exact rfl)
  refine loop_in (ι := Nat) (fun i => mkS 28 [(0, .sl 3 (rs.map rcRow)), (2, B false), (3, I i)] [] Fs) (fun i => i ≤ rs.length) (fun i => rs.length - i) 0 [] (Nat.zero_le _) ?_ ?_
  · repeat' (first
      | ((conv => whnf); (first
        | refine brK_dec (fun _ => ?_) (fun _ => ?_)
        | refine brK_ndec (fun _ => ?_) (fun _ => ?_)
        | refine brK_not (fun _ => ?_) (fun _ => ?_)
        | refine brK_in (fun _ => ?_) (fun _ => ?_)
        | refine And.intro (by first | exact rfl | exact ⟨_, rfl, rfl⟩ | exact ⟨rfl, rfl, rfl⟩ | exact of_decide_eq_true rfl | exact trivial | assumption | omega | (show (_ ≤ _ ∧ _ ≤ _); omega) | (simp; omega) | exact ⟨by first | omega | (simp; omega), _, rfl, rfl⟩) ?_
        | refine Both.mk ?_ ?_
        | refine Exists.intro _ (And.intro rfl ?_)
        | refine fun _ => ?_))
      | exact rfl)
  intro i hi
  repeat' (first
    | ((conv => whnf); (first
      | refine brK_dec (fun _ => ?_) (fun _ => ?_)
      | refine brK_ndec (fun _ => ?_) (fun _ => ?_)
      | refine brK_not (fun _ => ?_) (fun _ => ?_)
      | refine brK_in (fun _ => ?_) (fun _ => ?_)
      | refine And.intro (by first | exact rfl | exact ⟨_, rfl, rfl⟩ | exact ⟨rfl, rfl, rfl⟩ | exact of_decide_eq_true rfl | exact trivial | assumption | omega | (show (_ ≤ _ ∧ _ ≤ _); omega) | (simp; omega) | exact ⟨by first | omega | (simp; omega), _, rfl, rfl⟩) ?_
      | refine Both.mk ?_ ?_
      | refine Exists.intro _ (And.intro rfl ?_)
      | refine fun _ => ?_))
    | exact rfl)
  · rename_i hil e he
    obtain ⟨⟨x, d, y⟩, hx, rfl⟩ := rc_at he
    repeat' (first
      | ((conv => whnf); (first
        | refine brK_dec (fun _ => ?_) (fun _ => ?_)
        | refine brK_ndec (fun _ => ?_) (fun _ => ?_)
        | refine brK_not (fun _ => ?_) (fun _ => ?_)
        | refine brK_in (fun _ => ?_) (fun _ => ?_)
        | refine And.intro (by first | exact rfl | exact ⟨_, rfl, rfl⟩ | exact ⟨rfl, rfl, rfl⟩ | exact of_decide_eq_true rfl | exact trivial | assumption | omega | (show (_ ≤ _ ∧ _ ≤ _); omega) | (simp; omega) | exact ⟨by first | omega | (simp; omega), _, rfl, rfl⟩) ?_
        | refine Both.mk ?_ ?_
        | refine Exists.intro _ (And.intro rfl ?_)
        | refine fun _ => ?_))
      | exact rfl)
    · exact h _
    rename_i e he2
    obtain ⟨⟨x', d', y'⟩, hx', rfl⟩ := rc_at he2
    repeat' (first
      | ((conv => whnf); (first
        | refine brK_dec (fun _ => ?_) (fun _ => ?_)
        | refine brK_ndec (fun _ => ?_) (fun _ => ?_)
        | refine brK_not (fun _ => ?_) (fun _ => ?_)
        | refine brK_in (fun _ => ?_) (fun _ => ?_)
        | refine And.intro (by first | exact rfl | exact ⟨_, rfl, rfl⟩ | exact ⟨rfl, rfl, rfl⟩ | exact of_decide_eq_true rfl | exact trivial | assumption | omega | (show (_ ≤ _ ∧ _ ≤ _); omega) | (simp; omega) | exact ⟨by first | omega | (simp; omega), _, rfl, rfl⟩) ?_
        | refine Both.mk ?_ ?_
        | refine Exists.intro _ (And.intro rfl ?_)
        | refine fun _ => ?_))
      | exact rfl)
    · exact h _
    · refine ⟨i + 1, [], by omega, by omega, ?_⟩
      repeat' (first
        | ((conv => whnf); (first
          | refine brK_dec (fun _ => ?_) (fun _ => ?_)
          | refine brK_ndec (fun _ => ?_) (fun _ => ?_)
          | refine brK_not (fun _ => ?_) (fun _ => ?_)
          | refine brK_in (fun _ => ?_) (fun _ => ?_)
          | refine And.intro (by first | exact rfl | exact ⟨_, rfl, rfl⟩ | exact ⟨rfl, rfl, rfl⟩ | exact of_decide_eq_true rfl | exact trivial | assumption | omega | (show (_ ≤ _ ∧ _ ≤ _); omega) | (simp; omega) | exact ⟨by first | omega | (simp; omega), _, rfl, rfl⟩) ?_
          | refine Both.mk ?_ ?_
          | refine Exists.intro _ (And.intro rfl ?_)
          | refine fun _ => ?_))
        | exact rfl)
  · exact h _
def c_spec_l33Leaves : Con := ⟨1, 0, false, fun xs hs _ K => match xs with
  | [.sl 3 rows] => hs = [] ∧ ∃ rs : List (Int × Bool × Int), rows = rs.map rcRow ∧ rs.length < 2000000 ∧ ∀ l', l'.length = rs.length → K (.own 0) [.iarr l'] []
  | _ => False⟩
theorem k_spec_l33Leaves : Keeps' Tryz.prog 75 c_spec_l33Leaves := by
  refine keeps_of_vc mix TyT_ok (cok_cons k_spec_ReceiptDigest Tryz.func79 rfl rfl cok_nil) Tryz.func75 rfl rfl rfl ?_
  intro aargs hs Fs K h
  simp only [c_spec_l33Leaves] at h
  split at h
  case h_2 => exact h.elim
  rename_i rows
  obtain ⟨rfl, rs, rfl, hl, h⟩ := h
  have hlen : (rs.map rcRow).length = rs.length := by simp
  repeat' (first
    | ((conv => whnf); (first
      | refine brK_dec (fun _ => ?_) (fun _ => ?_)
      | refine brK_ndec (fun _ => ?_) (fun _ => ?_)
      | refine brK_not (fun _ => ?_) (fun _ => ?_)
      | refine brK_in (fun _ => ?_) (fun _ => ?_)
      | refine And.intro (by first | exact rfl | exact ⟨_, rfl, rfl⟩ | exact ⟨rfl, rfl, rfl⟩ | exact of_decide_eq_true rfl | exact trivial | assumption | omega | (show (_ ≤ _ ∧ _ ≤ _); omega) | (simp; omega) | exact ⟨by first | omega | (simp; omega), _, rfl, rfl⟩) ?_
      | refine Both.mk ?_ ?_
      | refine Exists.intro _ (And.intro rfl ?_)
      | refine fun _ => ?_))
    | exact rfl)
  refine loop_in (ι := Nat × List Int) (fun g => mkS 21 [(0, .sl 3 (rs.map rcRow)), (2, .val (.slice none 0 0)), (3, .own 0), (4, I g.1)] [.iarr g.2] Fs) (fun g => g.1 ≤ rs.length ∧ g.2.length = g.1) (fun g => rs.length - g.1) (0, []) [0] ⟨Nat.zero_le _, rfl⟩ ?_ ?_
  · repeat' (first
      | ((conv => whnf); (first
        | refine brK_dec (fun _ => ?_) (fun _ => ?_)
        | refine brK_ndec (fun _ => ?_) (fun _ => ?_)
        | refine brK_not (fun _ => ?_) (fun _ => ?_)
        | refine brK_in (fun _ => ?_) (fun _ => ?_)
        | refine And.intro (by first | exact rfl | exact ⟨_, rfl, rfl⟩ | exact ⟨rfl, rfl, rfl⟩ | exact of_decide_eq_true rfl | exact trivial | assumption | omega | (show (_ ≤ _ ∧ _ ≤ _); omega) | (simp; omega) | exact ⟨by first | omega | (simp; omega), _, rfl, rfl⟩) ?_
        | refine Both.mk ?_ ?_
        | refine Exists.intro _ (And.intro rfl ?_)
        | refine fun _ => ?_))
      | exact rfl)
  rintro ⟨i, o⟩ ⟨hi, ho⟩
  dsimp only at hi ho ⊢
  repeat' (first
    | ((conv => whnf); (first
      | refine brK_dec (fun _ => ?_) (fun _ => ?_)
      | refine brK_ndec (fun _ => ?_) (fun _ => ?_)
      | refine brK_not (fun _ => ?_) (fun _ => ?_)
      | refine brK_in (fun _ => ?_) (fun _ => ?_)
      | refine And.intro (by first | exact rfl | exact ⟨_, rfl, rfl⟩ | exact ⟨rfl, rfl, rfl⟩ | exact of_decide_eq_true rfl | exact trivial | assumption | omega | (show (_ ≤ _ ∧ _ ≤ _); omega) | (simp; omega) | exact ⟨by first | omega | (simp; omega), _, rfl, rfl⟩) ?_
      | refine Both.mk ?_ ?_
      | refine Exists.intro _ (And.intro rfl ?_)
      | refine fun _ => ?_))
    | exact rfl)
  · rename_i hil e he
    obtain ⟨⟨x, d, y⟩, hx, rfl⟩ := rc_at he
    repeat' (first
      | ((conv => whnf); (first
        | refine brK_dec (fun _ => ?_) (fun _ => ?_)
        | refine brK_ndec (fun _ => ?_) (fun _ => ?_)
        | refine brK_not (fun _ => ?_) (fun _ => ?_)
        | refine brK_in (fun _ => ?_) (fun _ => ?_)
        | refine And.intro (by first | exact rfl | exact ⟨_, rfl, rfl⟩ | exact ⟨rfl, rfl, rfl⟩ | exact of_decide_eq_true rfl | exact trivial | assumption | omega | (show (_ ≤ _ ∧ _ ≤ _); omega) | (simp; omega) | exact ⟨by first | omega | (simp; omega), _, rfl, rfl⟩) ?_
        | refine Both.mk ?_ ?_
        | refine Exists.intro _ (And.intro rfl ?_)
        | refine fun _ => ?_))
      | exact rfl)
    refine ⟨(i + 1, o ++ [rdg x d y]), [0], ⟨by dsimp only; omega, by dsimp only; simp; omega⟩, by dsimp only; omega, ?_⟩
    repeat' (first
      | ((conv => whnf); (first
        | refine brK_dec (fun _ => ?_) (fun _ => ?_)
        | refine brK_ndec (fun _ => ?_) (fun _ => ?_)
        | refine brK_not (fun _ => ?_) (fun _ => ?_)
        | refine brK_in (fun _ => ?_) (fun _ => ?_)
        | refine And.intro (by first | exact rfl | exact (by first | (rw [List.take_length]; done) | (simp; done)) | exact ⟨_, rfl, rfl⟩ | exact ⟨rfl, rfl, rfl⟩ | exact of_decide_eq_true rfl | exact trivial | assumption | omega | (show (_ ≤ _ ∧ _ ≤ _); omega) | (simp; omega) | exact ⟨by first | omega | (simp; omega), _, rfl, rfl⟩) ?_
        | refine Both.mk ?_ ?_
        | refine Exists.intro _ (And.intro rfl ?_)
        | refine fun _ => ?_))
      | exact rfl)
  · exact h _ (by omega)
def c_spec_ReceiptsRoot : Con := ⟨0, 0, false, fun xs hs _ K => match xs with
  | [.sl 3 rows] => hs = [] ∧ ∃ rs : List (Int × Bool × Int), rows = rs.map rcRow ∧ rs.length < 2000000 ∧ ∀ v, -1 ≤ v → v ≤ 990 → K (I v) [] []
  | _ => False⟩
theorem k_spec_ReceiptsRoot : Keeps' Tryz.prog 35 c_spec_ReceiptsRoot := by
  refine keeps_of_vc mix TyT_ok (cok_cons k_spec_l33List Tryz.func73 rfl rfl (cok_cons k_spec_l33Leaves Tryz.func75 rfl rfl (cok_cons k_spec_MerkleRoot Tryz.func74 rfl rfl cok_nil))) Tryz.func35 rfl rfl rfl ?_
  intro aargs hs Fs K h
  simp only [c_spec_ReceiptsRoot] at h
  split at h
  case h_2 => exact h.elim
  rename_i rows
  obtain ⟨rfl, rs, rfl, hl, h⟩ := h
  repeat' (first
    | ((conv => whnf); (first
      | refine brK_dec (fun _ => ?_) (fun _ => ?_)
      | refine brK_ndec (fun _ => ?_) (fun _ => ?_)
      | refine brK_not (fun _ => ?_) (fun _ => ?_)
      | refine brK_in (fun _ => ?_) (fun _ => ?_)
      | refine And.intro (by first | exact rfl | exact ⟨_, rfl, rfl⟩ | exact ⟨rfl, rfl, rfl⟩ | exact of_decide_eq_true rfl | exact trivial | assumption | omega | (show (_ ≤ _ ∧ _ ≤ _); omega) | (simp; omega) | exact ⟨by first | omega | (simp; omega), _, rfl, rfl⟩) ?_
      | refine Both.mk ?_ ?_
      | refine Exists.intro _ (And.intro rfl ?_)
      | refine fun _ => ?_))
    | exact rfl)
  all_goals first
    | exact h _ (by omega) (by omega)
    | exact h _ ‹_› ‹_›
def c_spec_ReceiptProof : Con := ⟨1, 0, false, fun xs hs _ K => match xs with
  | [.sl 3 rows, .val (.int .i64 _)] => hs = [] ∧ ∃ rs : List (Int × Bool × Int), rows = rs.map rcRow ∧ rs.length < 2000000 ∧ ∀ l', l'.length ≤ 30 → K (.own 0) [.iarr l'] []
  | _ => False⟩
theorem k_spec_ReceiptProof : Keeps' Tryz.prog 68 c_spec_ReceiptProof := by
  refine keeps_of_vc mix TyT_ok (cok_cons k_spec_l33List Tryz.func73 rfl rfl (cok_cons k_spec_l33Leaves Tryz.func75 rfl rfl (cok_cons k_spec_MerkleProof Tryz.func107 rfl rfl cok_nil))) Tryz.func68 rfl rfl rfl ?_
  intro aargs hs Fs K h
  simp only [c_spec_ReceiptProof] at h
  split at h
  case h_2 => exact h.elim
  rename_i rows k
  obtain ⟨rfl, rs, rfl, hl, h⟩ := h
  repeat' (first
    | ((conv => whnf); (first
      | refine brK_dec (fun _ => ?_) (fun _ => ?_)
      | refine brK_ndec (fun _ => ?_) (fun _ => ?_)
      | refine brK_not (fun _ => ?_) (fun _ => ?_)
      | refine brK_in (fun _ => ?_) (fun _ => ?_)
      | refine And.intro (by first | exact rfl | exact ⟨_, rfl, rfl⟩ | exact ⟨rfl, rfl, rfl⟩ | exact of_decide_eq_true rfl | exact trivial | assumption | omega | (show (_ ≤ _ ∧ _ ≤ _); omega) | (simp; omega) | exact ⟨by first | omega | (simp; omega), _, rfl, rfl⟩) ?_
      | refine Both.mk ?_ ?_
      | refine Exists.intro _ (And.intro rfl ?_)
      | refine fun _ => ?_))
    | exact rfl)
  all_goals first
    | exact h _ (by simp)
    | exact h _ (by omega)
def c_spec_l92Receipt : Con := ⟨0, 1, false, fun xs hs _ K => match xs, hs with
  | [.ptr 0 0], [.cells [.bytes b, .val (.int .i64 off)]] => b.length ≤ 2000 ∧ 0 ≤ off ∧ off ≤ 900000 ∧ ∀ off' i d g, off ≤ off' → off' ≤ off + 10 → K (.agg [I i, B d, I g]) [rdO b off'] []
  | _, _ => False⟩
theorem k_spec_l92Receipt : Keeps' Tryz.prog 106 c_spec_l92Receipt := by
  refine keeps_of_vc mix TyT_ok (cok_cons k_spec_l6Rd_pick Tryz.func33 rfl rfl (cok_cons k_spec_l91Digest Tryz.func69 rfl rfl cok_nil)) Tryz.func106 rfl rfl rfl ?_
  intro aargs hs Fs K h
  simp only [c_spec_l92Receipt] at h
  split at h
  case h_2 => exact h.elim
  rename_i b off
  obtain ⟨hb, h0, h1, h⟩ := h
  repeat' (first
    | ((conv => whnf); (first
      | refine brK_dec (fun _ => ?_) (fun _ => ?_)
      | refine brK_ndec (fun _ => ?_) (fun _ => ?_)
      | refine brK_not (fun _ => ?_) (fun _ => ?_)
      | refine brK_in (fun _ => ?_) (fun _ => ?_)
      | refine And.intro (by first | exact rfl | exact ⟨_, rfl, rfl⟩ | exact ⟨rfl, rfl, rfl⟩ | exact of_decide_eq_true rfl | exact trivial | assumption | omega | (show (_ ≤ _ ∧ _ ≤ _); omega) | (simp; omega) | exact ⟨by first | omega | (simp; omega), _, rfl, rfl⟩) ?_
      | refine Both.mk ?_ ?_
      | refine Exists.intro _ (And.intro rfl ?_)
      | refine fun _ => ?_))
    | exact rfl)
  all_goals exact h _ _ _ _ (by omega) (by omega)
def c_spec_l92Receipts : Con := ⟨0, 1, true, fun xs hs _ K => match xs, hs with
  | [.ptr 0 0], [.cells [.bytes b, .val (.int .i64 off)]] => b.length ≤ 2000 ∧ 0 ≤ off ∧ off ≤ 800000 ∧ ∀ off' (rs : List (Int × Bool × Int)), off ≤ off' → off' ≤ off + 200 → rs.length ≤ 10 → K (.sl 3 (rs.map rcRow)) [rdO b off'] []
  | _, _ => False⟩
theorem k_spec_l92Receipts : Keeps' Tryz.prog 67 c_spec_l92Receipts := by
  refine keeps_of_cut (r := 13) mix TyT_ok (cok_cons k_spec_l92Receipt Tryz.func106 rfl rfl (cok_cons k_spec_l6Rd_pick Tryz.func33 rfl rfl cok_nil)) Tryz.func67 rfl rfl rfl rfl ?_
  intro aargs hs Fs K h
  simp only [c_spec_l92Receipts] at h
  split at h
  case h_2 => exact h.elim
  rename_i b off
  obtain ⟨hb, h0, h1, h⟩ := h
  refine ⟨Int × List (Int × Bool × Int), fun g => mkS 40 [(0, .ptr 0 0), (3, .sl 3 (g.2.map rcRow))] [rdO b g.1] Fs, fun g => off ≤ g.1 ∧ g.1 ≤ off + 200 ∧ g.2.length ≤ 10, ?_, ?_⟩
  · repeat' (first
      | ((conv => whnf); (first
        | refine brK_dec (fun _ => ?_) (fun _ => ?_)
        | refine brK_ndec (fun _ => ?_) (fun _ => ?_)
        | refine brK_not (fun _ => ?_) (fun _ => ?_)
        | refine brK_in (fun _ => ?_) (fun _ => ?_)
        | refine And.intro (by first | exact rfl | exact ⟨_, rfl, rfl⟩ | exact ⟨rfl, rfl, rfl⟩ | exact of_decide_eq_true rfl | exact trivial | assumption | omega | (show (_ ≤ _ ∧ _ ≤ _); omega) | (simp; omega) | exact ⟨by first | omega | (simp; omega), _, rfl, rfl⟩) ?_
        | refine Both.mk ?_ ?_
        | refine Exists.intro _ (And.intro rfl ?_)
        | refine fun _ => ?_))
      | exact rfl)
    refine loop_in (ι := Nat × Int × List (Int × Bool × Int)) (fun g => mkS 40 [(0, .ptr 0 0), (2, .val (.slice none 0 0)), (3, .own 1), (4, I g.1)] [rdO b g.2.1, .arr 3 (g.2.2.map rcRow)] Fs)
      (fun g => g.1 ≤ 10 ∧ off ≤ g.2.1 ∧ g.2.1 ≤ off + 12 * g.1 ∧ g.2.2.length = g.1) (fun g => 10 - g.1) (0, off, []) [0, 1] ⟨by dsimp only; omega, by simp, by simp, rfl⟩ ?_ ?_
    · repeat' (first
        | ((conv => whnf); (first
          | refine brK_dec (fun _ => ?_) (fun _ => ?_)
          | refine brK_ndec (fun _ => ?_) (fun _ => ?_)
          | refine brK_not (fun _ => ?_) (fun _ => ?_)
          | refine brK_in (fun _ => ?_) (fun _ => ?_)
          | refine And.intro (by first | exact rfl | exact ⟨_, rfl, rfl⟩ | exact ⟨rfl, rfl, rfl⟩ | exact of_decide_eq_true rfl | exact trivial | assumption | omega | (show (_ ≤ _ ∧ _ ≤ _); omega) | (simp; omega) | exact ⟨by first | omega | (simp; omega), _, rfl, rfl⟩) ?_
          | refine Both.mk ?_ ?_
          | refine Exists.intro _ (And.intro rfl ?_)
          | refine fun _ => ?_))
        | exact rfl)
    rintro ⟨i, o, rs⟩ ⟨w1, w2, w3, w4⟩
    dsimp only at w1 w2 w3 w4 ⊢
    have hlen : (rs.map rcRow).length = rs.length := by simp
    repeat' (first
      | ((conv => whnf); (first
        | refine brK_dec (fun _ => ?_) (fun _ => ?_)
        | refine brK_ndec (fun _ => ?_) (fun _ => ?_)
        | refine brK_not (fun _ => ?_) (fun _ => ?_)
        | refine brK_in (fun _ => ?_) (fun _ => ?_)
        | refine And.intro (by first | exact rfl | exact (by first | exact Nat.le_trans (Nat.mul_le_mul_right _ (show _ ≤ 100 from by simp [chunks]; omega)) (by decide) | (simp [chunks]; omega)) | exact ⟨_, rfl, rfl⟩ | exact ⟨rfl, rfl, rfl⟩ | exact of_decide_eq_true rfl | exact trivial | assumption | omega | (show (_ ≤ _ ∧ _ ≤ _); omega) | (simp; omega) | exact ⟨by first | omega | (simp; omega), _, rfl, rfl⟩) ?_
        | refine Both.mk ?_ ?_
        | refine Exists.intro _ (And.intro rfl ?_)
        | refine fun _ => ?_))
      | exact rfl)
    · rename_i v hv0 hv1 hlt o2 ri rd rg a1 a2
      refine ⟨(i + 1, o2, rs ++ [((i : Int), rd, rg)]), [0, 1], ⟨by dsimp only; omega, by dsimp only; omega, by dsimp only; omega, by dsimp only; simp; omega⟩, by dsimp only; omega, ?_⟩
      repeat' (first
        | ((conv => whnf); (first
          | refine brK_dec (fun _ => ?_) (fun _ => ?_)
          | refine brK_ndec (fun _ => ?_) (fun _ => ?_)
          | refine brK_not (fun _ => ?_) (fun _ => ?_)
          | refine brK_in (fun _ => ?_) (fun _ => ?_)
          | refine And.intro (by first | exact rfl | exact (by rw [List.take_length, List.map_append]; rfl) | exact ⟨_, rfl, rfl⟩ | exact ⟨rfl, rfl, rfl⟩ | exact of_decide_eq_true rfl | exact trivial | assumption | omega | (show (_ ≤ _ ∧ _ ≤ _); omega) | (simp; omega) | exact ⟨by first | omega | (simp; omega), _, rfl, rfl⟩) ?_
          | refine Both.mk ?_ ?_
          | refine Exists.intro _ (And.intro rfl ?_)
          | refine fun _ => ?_))
        | exact rfl)
    · rename_i v hv0 hv1 hge kk hk0 hk1 hk m hm0 hm1 z hz0 hz1 e he
      obtain ⟨⟨x, d, y⟩, hx, rfl⟩ := rc_at he
      have e1 : (rs.map rcRow).set m.toNat (splice (rcRow (x, d, y)) 0 [I z]) = (rs.set m.toNat (z, d, y)).map rcRow := by rw [List.map_set]; rfl
      (conv => whnf)
      refine ⟨(o + 1 + 1 + 1 + 1, rs.set m.toNat (z, d, y)), [0], ⟨by dsimp only; omega, by dsimp only; omega, by dsimp only; simp; omega⟩, ?_⟩
      dsimp only
      rw [← e1]
      repeat' (first
        | ((conv => whnf); (first
          | refine brK_dec (fun _ => ?_) (fun _ => ?_)
          | refine brK_ndec (fun _ => ?_) (fun _ => ?_)
          | refine brK_not (fun _ => ?_) (fun _ => ?_)
          | refine brK_in (fun _ => ?_) (fun _ => ?_)
          | refine And.intro (by first | exact rfl | exact ⟨_, rfl, rfl⟩ | exact ⟨rfl, rfl, rfl⟩ | exact of_decide_eq_true rfl | exact trivial | assumption | omega | (show (_ ≤ _ ∧ _ ≤ _); omega) | (simp; omega) | exact ⟨by first | omega | (simp; omega), _, rfl, rfl⟩) ?_
          | refine Both.mk ?_ ?_
          | refine Exists.intro _ (And.intro rfl ?_)
          | refine fun _ => ?_))
        | exact rfl)
    · (conv => whnf)
      refine ⟨(o + 1 + 1, []), [0], ⟨by dsimp only; omega, by dsimp only; omega, by simp⟩, ?_⟩
      repeat' (first
        | ((conv => whnf); (first
          | refine brK_dec (fun _ => ?_) (fun _ => ?_)
          | refine brK_ndec (fun _ => ?_) (fun _ => ?_)
          | refine brK_not (fun _ => ?_) (fun _ => ?_)
          | refine brK_in (fun _ => ?_) (fun _ => ?_)
          | refine And.intro (by first | exact rfl | exact ⟨_, rfl, rfl⟩ | exact ⟨rfl, rfl, rfl⟩ | exact of_decide_eq_true rfl | exact trivial | assumption | omega | (show (_ ≤ _ ∧ _ ≤ _); omega) | (simp; omega) | exact ⟨by first | omega | (simp; omega), _, rfl, rfl⟩) ?_
          | refine Both.mk ?_ ?_
          | refine Exists.intro _ (And.intro rfl ?_)
          | refine fun _ => ?_))
        | exact rfl)
    · (conv => whnf)
      refine ⟨(o + 1 + 1, rs), [0], ⟨by dsimp only; omega, by dsimp only; omega, by dsimp only; omega⟩, ?_⟩
      repeat' (first
        | ((conv => whnf); (first
          | refine brK_dec (fun _ => ?_) (fun _ => ?_)
          | refine brK_ndec (fun _ => ?_) (fun _ => ?_)
          | refine brK_not (fun _ => ?_) (fun _ => ?_)
          | refine brK_in (fun _ => ?_) (fun _ => ?_)
          | refine And.intro (by first | exact rfl | exact ⟨_, rfl, rfl⟩ | exact ⟨rfl, rfl, rfl⟩ | exact of_decide_eq_true rfl | exact trivial | assumption | omega | (show (_ ≤ _ ∧ _ ≤ _); omega) | (simp; omega) | exact ⟨by first | omega | (simp; omega), _, rfl, rfl⟩) ?_
          | refine Both.mk ?_ ?_
          | refine Exists.intro _ (And.intro rfl ?_)
          | refine fun _ => ?_))
        | exact rfl)
  · rintro ⟨o, rs⟩ ⟨q1, q2, q3⟩
    dsimp only at q1 q2 q3 ⊢
    repeat' (first
      | ((conv => whnf); (first
        | refine brK_dec (fun _ => ?_) (fun _ => ?_)
        | refine brK_ndec (fun _ => ?_) (fun _ => ?_)
        | refine brK_not (fun _ => ?_) (fun _ => ?_)
        | refine brK_in (fun _ => ?_) (fun _ => ?_)
        | refine And.intro (by first | exact rfl | exact ⟨_, rfl, rfl⟩ | exact ⟨rfl, rfl, rfl⟩ | exact of_decide_eq_true rfl | exact trivial | assumption | omega | (show (_ ≤ _ ∧ _ ≤ _); omega) | (simp; omega) | exact ⟨by first | omega | (simp; omega), _, rfl, rfl⟩) ?_
        | refine Both.mk ?_ ?_
        | refine Exists.intro _ (And.intro rfl ?_)
        | refine fun _ => ?_))
      | exact rfl)
    exact h _ _ q1 q2 q3
end Go.Proofs.YtlhbdhccddadaaaGreatDoor
