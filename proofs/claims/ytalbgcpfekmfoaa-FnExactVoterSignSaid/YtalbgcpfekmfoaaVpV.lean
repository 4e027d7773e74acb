/-
A vote cast, by the program: its contract.
No conditions.
-/
import Derived.Test.YtalbgcpfekmfoaaVpK
import Derived.Test.YtalbgcpfekmfoaaVpS
namespace Go.Proofs.Ytalbgcpfekmfoaa
open Go Go.Vc Go.RowKit
set_option maxHeartbeats 1000000
set_option maxRecDepth 100000
theorem sign_no {f : Int} {l : List VtD} {v : VtD} (h : ∀ u ∈ l, sameS u v = false) : signS f l v = if v.r < f ∨ 40 ≤ l.length then (l, false) else (insT l v, true) := by
  unfold signS
  rw [find_noT h]
theorem any_no {l : List VtD} {v : VtD} (h : (l.any fun u => agB u v) = false) {u : VtD} (hu : u ∈ l) (hs : sameS u v = true) : u.d = v.d := by
  rw [List.any_eq_false] at h
  have := h u hu
  unfold agB at this
  rw [hs] at this
  simpa using this
theorem sign_two {f : Int} {l : List VtD} {v : VtD} (hso : sortedT l) : signS f l v = if (l.any fun u => agB u v) = true then (l, false) else if (∃ u ∈ l, sameS u v = true) then (l, true) else if v.r < f ∨ 40 ≤ l.length then (l, false) else (insT l v, true) := by
  by_cases hin : ∃ u ∈ l, sameS u v = true
  · obtain ⟨u, hu, hs⟩ := hin
    obtain ⟨k, hk⟩ := List.mem_iff_getElem?.1 hu
    have e : (l.find? fun u => sameS u v) = some u := by
      refine find_atT hk hs fun j w hj hw => ?_
      rw [Bool.eq_false_iff]
      intro hq
      have h1 := sameS_iff.1 hq
      have h2 := sameS_iff.1 hs
      have h3 : w = u := same_eq hso (List.mem_of_getElem? hw) hu (sameS_iff.2 ⟨h1.1.trans h2.1.symm, h1.2.trans h2.2.symm⟩)
      rw [h3] at hw
      have := hso j k u u hj hw hk
      exact VtD.lt_irrefl this
    have e2 : signS f l v = (l, decide (u.d = v.d)) := by
      unfold signS
      rw [e]
    rw [e2]
    by_cases hd : u.d = v.d
    · have ha : ¬ (l.any fun u => agB u v) = true := by
        rw [List.any_eq_true]
        rintro ⟨x, hx, hq⟩
        unfold agB at hq
        rw [Bool.and_eq_true] at hq
        have h1 := sameS_iff.1 hq.1
        have h2 := sameS_iff.1 hs
        have h3 : x = u := same_eq hso hx hu (sameS_iff.2 ⟨h1.1.trans h2.1.symm, h1.2.trans h2.2.symm⟩)
        rw [h3] at hq
        exact of_decide_eq_true hq.2 hd
      rw [if_neg ha, if_pos ⟨u, hu, hs⟩, decide_eq_true hd]
    · have ha : (l.any fun u => agB u v) = true := by
        rw [List.any_eq_true]
        refine ⟨u, hu, ?_⟩
        unfold agB
        rw [hs, decide_eq_true hd]
        rfl
      rw [if_pos ha, decide_eq_false hd]
  · have hno : ∀ u ∈ l, sameS u v = false := fun u hu => by
      rw [Bool.eq_false_iff]
      exact fun hq => hin ⟨u, hu, hq⟩
    have ha : ¬ (l.any fun u => agB u v) = true := by
      rw [List.any_eq_true]
      rintro ⟨x, hx, hq⟩
      unfold agB at hq
      rw [hno x hx] at hq
      cases hq
    rw [if_neg ha, if_neg hin, sign_no hno]
/-- All valid cases. -/
theorem sign_good {f : Int} {l : List VtD} {r a d : Int} {ad : Option Addr} {cap : Nat} {w : World} (C : Callees f l r a d ad cap w) (hv : vrV f l = true) (htv : vtV ⟨r, a, d⟩ = true) :
    Calls Try.prog 9 #[.agg #[.int .i64 f, .slice ad l.length cap], .agg #[.int .i64 r, .int .i64 a, .int .i64 d]] w fun e w' => ∃ x, e = .returned (.tuple #[x, .bool (signS f l ⟨r, a, d⟩).2]) ∧ OutV w.heap.size f (signS f l ⟨r, a, d⟩).1 x w' ∧ Below w.heap.size w w' := by
  obtain ⟨-, h40, hso, -⟩ := vr_out hv
  rw [sign_two hso]
  by_cases ha : (l.any fun u => agB u ⟨r, a, d⟩) = true
  · rw [if_pos ha]
    exact sign_contra C hv htv ha
  rw [if_neg ha]
  have ha : (l.any fun u => agB u ⟨r, a, d⟩) = false := by simpa using ha
  by_cases hin : ∃ u ∈ l, sameS u ⟨r, a, d⟩ = true
  · rw [if_pos hin]
    exact sign_voted C hv htv ha hin
  rw [if_neg hin]
  have hno : ∀ u ∈ l, sameS u ⟨r, a, d⟩ = false := fun u hu => by
    rw [Bool.eq_false_iff]
    exact fun hq => hin ⟨u, hu, hq⟩
  by_cases hrf : r < f
  · rw [if_pos (Or.inl hrf)]
    exact sign_low1 C hv htv ha hno hrf
  by_cases hl : l.length = 40
  · rw [if_pos (Or.inr (by omega))]
    exact sign_low2 C hv htv ha hno hrf (by omega)
  rw [if_neg (show ¬ (r < f ∨ 40 ≤ l.length) by omega)]
  exact sign_new C hv htv ha hno hrf (by omega) sortsV
theorem k_impl_VoterSign : Keeps' Try.prog 9 c_spec_VoterSign := by
  rintro E args aargs hs Fs K h hlen hn0 hsat hrep hfx
  simp only [c_spec_VoterSign] at h
  split at h
  case h_2 => exact h.elim
  rename_i f rows r a d
  obtain ⟨rfl, l, rfl, hl, hy, hno⟩ := h
  obtain ⟨x, y, rfl⟩ : ∃ x y, args = [x, y] := by
    rcases args with _ | ⟨x, _ | ⟨y, _ | ⟨z, t⟩⟩⟩ <;> simp at hlen
    exact ⟨x, y, rfl⟩
  have hx := hrep 0 _ x rfl rfl
  have hyv := hrep 1 _ y rfl rfl
  have e1 : y = .agg #[.int .i64 r, .int .i64 a, .int .i64 d] := by
    cases hyv with
    | agg cs vs hl2 h1 hh =>
      obtain ⟨a0, a1, a2, rfl⟩ : ∃ a0 a1 a2, vs = [a0, a1, a2] := by
        rcases vs with _ | ⟨a0, _ | ⟨a1, _ | ⟨a2, _ | ⟨a3, t⟩⟩⟩⟩ <;> simp at hl2
        exact ⟨a0, a1, a2, rfl⟩
      have t0 := hh 0 _ a0 rfl rfl
      have t1 := hh 1 _ a1 rfl rfl
      have t2 := hh 2 _ a2 rfl rfl
      cases t0
      cases t1
      cases t2
      rfl
  subst e1
  have hX : ∃ s, x = .agg #[.int .i64 f, s] ∧ RepV (ctxOf E (listH []) E.w0 E.ρ0 E.A0) (.sl 3 (l.map VtD.row)) s := by
    revert hx
    generalize hR : AV.sl 3 (l.map VtD.row) = R
    intro hx
    cases hx with
    | agg cs vs hl2 h1 hh =>
      obtain ⟨a0, a1, rfl⟩ : ∃ a0 a1, vs = [a0, a1] := by
        rcases vs with _ | ⟨a0, _ | ⟨a1, _ | ⟨a2, t⟩⟩⟩ <;> simp at hl2
        exact ⟨a0, a1, rfl⟩
      have t0 := hh 0 _ a0 rfl rfl
      cases t0
      exact ⟨a1, rfl, hh 1 _ a1 rfl rfl⟩
  obtain ⟨s, rfl, hs⟩ := hX
  have hvv : ∀ W, Below E.w0.heap.size E.w0 W → Calls Try.prog 24 #[.agg #[.int .i64 f, s]] W fun e w' => e = .returned (.bool (vrV f l)) ∧ Below W.heap.size W w' := fun W hW =>
    ro_val k_impl_VoterValid hsat [.agg [I f, .sl 3 (l.map VtD.row)]] [_] ⟨rfl, l, rfl, hl, rfl⟩ rfl (fun i a u ha hu => by
      match i, ha, hu with
      | 0, ha, hu => cases ha; cases hu; exact ⟨hx, rfl⟩
      | i + 1, ha, hu => simp at ha) hW
  have htt : ∀ W, Below E.w0.heap.size E.w0 W → Calls Try.prog 25 #[.agg #[.int .i64 r, .int .i64 a, .int .i64 d]] W fun e w' => e = .returned (.bool (vtV ⟨r, a, d⟩)) ∧ Below W.heap.size W w' := fun W hW =>
    ro_val k_impl_Vote_valid hsat [.agg [I r, I a, I d]] [_] ⟨rfl, rfl⟩ rfl (fun i a u ha hu => by
      match i, ha, hu with
      | 0, ha, hu => cases ha; cases hu; exact ⟨hyv, rfl⟩
      | i + 1, ha, hu => simp at ha) hW
  have hkk : ∀ W, Below E.w0.heap.size E.w0 W → l.length ≤ 40 → Calls Try.prog 28 #[.agg #[.int .i64 f, s]] W fun e w' => ∃ x, e = .returned x ∧ OutV W.heap.size f l x w' ∧ Below W.heap.size W w' := fun W hW h40 =>
    clone_calls hsat (by omega) hx hW
  obtain ⟨ad, cap, rfl, C⟩ : ∃ ad cap, s = .slice ad l.length cap ∧ Callees f l r a d ad cap E.w0 := by
    rcases sl_cells hs with ⟨rfl, ad, cap, rfl⟩ | ⟨b, off, cap, rfl, hok, hc⟩
    · exact ⟨ad, cap, rfl, hvv, htt, hkk, fun W p hW _ _ => (con_nil _ ad cap W).mono (by rintro e w' ⟨rfl, rfl⟩; exact ⟨rfl, Below.refl _ _⟩), fun W hW _ _ _ => dig_nil f ad cap W⟩
    · have hbl : b < E.w0.heap.size := hsat.ok_lt hok
      have hcW : ∀ W, Below E.w0.heap.size E.w0 W → ∀ (i : Nat) v, l[i]? = some v → W.cell? ⟨b, off + i * 3, none⟩ = some (.int .i64 v.r) ∧ W.cell? ⟨b, off + i * 3 + 1, none⟩ = some (.int .i64 v.a) ∧ W.cell? ⟨b, off + i * 3 + 2, none⟩ = some (.int .i64 v.d) := fun W hW i v hv => by
        obtain ⟨c0, c1, c2⟩ := hc i v hv
        exact ⟨(hW.cell (p := ⟨b, off + i * 3, none⟩) hbl).trans c0, (hW.cell (p := ⟨b, off + i * 3 + 1, none⟩) hbl).trans c1, (hW.cell (p := ⟨b, off + i * 3 + 2, none⟩) hbl).trans c2⟩
      exact ⟨_, cap, rfl, hvv, htt, hkk, fun W p hW h40 hp => con_any l r a d b off cap p W (Nat.lt_of_lt_of_le hbl hW.size) h40 (hcW W hW) hp, fun W hW h40 hd hnd => dig_any f b off cap l W hd hnd h40 (Nat.lt_of_lt_of_le hbl hW.size) (hcW W hW)⟩
  have bad : (vrV f l && vtV ⟨r, a, d⟩) = false → ∀ e w', e = .returned (.tuple #[.agg #[.int .i64 0, .slice none 0 0], .bool false]) ∧ Below E.w0.heap.size E.w0 w' → Ret E c_spec_VoterSign Fs K e w' := by
    rintro hb e w' ⟨rfl, hb2⟩
    refine ret_below hsat hn0 rfl hb2 ?_ (by rfl) (hno hb)
    refine .tup [.agg [I 0, .val (.slice none 0 0)], B false] [_, _] rfl (by simp) fun i a v ha hv => ?_
    match i, ha, hv with
    | 0, ha, hv =>
      cases ha
      cases hv
      refine .agg [I 0, .val (.slice none 0 0)] [_, _] rfl (by simp [Value.oneCell']) fun i a v ha hv => ?_
      match i, ha, hv with
      | 0, ha, hv => cases ha; cases hv; exact .val _
      | 1, ha, hv => cases ha; cases hv; exact .val _
      | i + 2, ha, hv => simp at ha
    | 1, ha, hv => cases ha; cases hv; exact .val _
    | i + 2, ha, hv => simp at ha
  show Calls _ _ #[_, _] _ _
  rcases Bool.eq_false_or_eq_true (vrV f l) with hv | hv
  · rcases Bool.eq_false_or_eq_true (vtV ⟨r, a, d⟩) with htv | htv
    · refine (sign_good C hv htv).mono ?_
      rintro e w' ⟨x, rfl, ho, hb⟩
      exact ret_row (Nat.le_refl _) hsat hn0 rfl hb ho (hy (by rw [hv, htv]; rfl))
    · exact (sign_bad2 C hv htv).mono (bad (by rw [hv, htv]; rfl))
  · exact (sign_bad C hv).mono (bad (by rw [hv, Bool.false_and]))
end Go.Proofs.Ytalbgcpfekmfoaa
