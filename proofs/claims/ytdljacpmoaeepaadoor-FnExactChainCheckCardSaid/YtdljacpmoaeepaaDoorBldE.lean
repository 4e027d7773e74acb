/-
The digest of an epoch, by both: contracts.
No conditions.
-/
import Derived.Test.YtdljacpmoaeepaaDoorBldB
import Derived.Test.YtdljacpmoaeepaaDoorBldC
namespace Go.Proofs.YtdljacpmoaeepaaDoor
open Go Go.Vc Go.RowKit Go.Proofs
set_option maxHeartbeats 1000000
set_option maxRecDepth 100000
theorem satW_below {E : Entry} {Fs : List Fam} {w' : World} (h : SatW E (listH []) Fs E.w0 E.ρ0 E.A0) (hb : Below E.w0.heap.size E.w0 w') : SatW E (listH []) Fs w' E.ρ0 E.A0 := by
  have hd : ∀ k, listH [] k = .dead := fun k => rfl
  have kp : Vc.Keeps (ctxOf E (listH []) E.w0 E.ρ0 E.A0) (ctxOf E (listH []) w' E.ρ0 E.A0) := by
    refine ⟨fun b hb' => ?_, fun b hb' => ?_, fun b hb' => hb', fun b hb' => ?_, ⟨Nat.le_refl _, fun _ _ => rfl⟩⟩
    · rcases hb' with hb' | ⟨h1, h2, _⟩
      · exact .inl hb'
      · exact absurd h2 (by omega)
    · exact hb.block b (h.ok_lt hb')
    · exact hb.block b (h.zB b hb').1
  exact { os := hb.os, tape := hb.tape, output := hb.output, size := hb.size, frame := fun b hb' _ => hb.block b hb', okB := h.okB, zB := h.zB,
          place := fun k hk => absurd (hd k) hk, inj := fun k _ hk => absurd (hd k) hk, stay := h.stay, fix := fun _ k _ ha => absurd (hd k) ha, grow := fun _ k _ vs T fr h0 => ⟨vs, T, fr, (hb.block _ (Array.getElem?_eq_some_iff.1 h0).1).trans h0, Nat.le_refl _⟩, pins := fun p hp => ⟨(h.pins p hp).1, (hb.block _ (h.okB _ (h.pins p hp).1).1).trans (h.pins p hp).2⟩, obj := fun k => by rw [hd k]; trivial, fl := h.fl, nf := h.nf, A0 := h.A0,
          fam := fun f fam hf => RepFam.move kp (by rw [← h.fl]; exact (List.getElem?_eq_some_iff.1 hf).1) (h.fam f fam hf) }
theorem ret_below {E : Entry} {con : Con} {Fs : List Fam} {K : AV → List AO → List Fam → Prop} {v : Value} {e : Ending} {w' : World} (h : SatW E (listH []) Fs E.w0 E.ρ0 E.A0) (hn : E.n0 = 0) (he : e = .returned v) (hb : Below E.w0.heap.size E.w0 w') (hK : K (.val v) [] []) : Ret E con Fs K e w' := by
  refine ⟨v, .val v, [], [], E.ρ0, E.A0, he, hK, ?_, .val v, by omega, Nat.zero_le _, fun _ => ⟨⟨rfl, by simp⟩, rfl⟩⟩
  rw [List.append_nil]
  exact satW_below h hb
def tabRow : List AV := Lib.pow10Tab.map fun z => .val (.int .u64 z)
def hasTab (Fs : List Fam) : Prop := pinOf Fs 0 = some tabRow
theorem pin_app : ∀ {Fs nF : List Fam} {g : Nat} {cs : List AV}, pinOf Fs g = some cs → pinOf (Fs ++ nF) g = some cs
  | [], _, _, _, h => by cases h
  | ⟨none, o⟩ :: r, nF, g, cs, h => by
    have h : pinOf r g = some cs := h
    exact pin_app (Fs := r) (nF := nF) h
  | ⟨some p, o⟩ :: r, nF, g, cs, h => by
    unfold pinOf at h
    show pinOf (⟨some p, o⟩ :: (r ++ nF)) g = some cs
    unfold pinOf
    split at h
    · rename_i e
      rw [if_pos e]
      exact h
    · rename_i e
      rw [if_neg e]
      exact pin_app (Fs := r) h
theorem tab_app {Fs nF : List Fam} (h : hasTab Fs) : hasTab (Fs ++ nF) := pin_app h
theorem tab_of {E : Entry} {H : Nat → AO} {Fs : List Fam} {w : World} {ρ : Nat → Nat} {A : FA} (h : SatW E H Fs w ρ A) (ht : hasTab Fs) : tabOk w := by
  obtain ⟨f, fam, hf, hp, h0⟩ := pinOf_out ht
  have hr := h.fam f fam hf
  obtain ⟨h1, h2⟩ := hr.2.2.1 0 hp
  obtain ⟨vs, T, fr, h3, h4⟩ := h2 _ h0
  obtain ⟨hok, vf, hv⟩ := hr.1 0 _ h0
  have h3 : w.heap[0]? = some (.cells vs T fr) := h3
  unfold tabOk Lib.TabIs World.var?
  rw [tab_glob]
  simp only [Option.bind_some, h3, Option.some.injEq]
  refine Array.ext (by simp [h4, tabRow]) fun i hi1 hi2 => ?_
  have hi : i < tabRow.length := by omega
  obtain ⟨c1, -, -, c2⟩ := hv i tabRow[i] (List.getElem?_eq_getElem hi)
  have h1 : A.at_ f 0 = 0 := h1
  have c1 : w.cell? ⟨A.at_ f 0, i, none⟩ = some (vf i) := c1
  rw [h1, Lib.cell_of_heap h3] at c1
  have c3 : tabRow[i] = .val (.int .u64 (Lib.pow10Tab[i]'(by simpa [tabRow] using hi))) := by simp [tabRow]
  rw [c3] at c2
  have c4 : vf i = .int .u64 (Lib.pow10Tab[i]'(by simpa [tabRow] using hi)) := by
    revert c2
    generalize vf i = z
    intro c2
    cases c2; rfl
  rw [c4, Array.getElem?_eq_getElem hi1, Option.some.injEq] at c1
  rw [c1]
  simp
theorem rep_out {E : Entry} {Fs : List Fam} (h : SatW E (listH []) Fs E.w0 E.ρ0 E.A0) {l : List Int} {v : Value} (hr : RepV (ctxOf E (listH []) E.w0 E.ρ0 E.A0) (.ints l) v) : RepV (outC E.w0) (.ints l) v := by
  have kp : Vc.Keeps (ctxOf E (listH []) E.w0 E.ρ0 E.A0) { outC E.w0 with A := E.A0 } := by
    refine ⟨fun b hb' => ?_, fun b hb' => rfl, fun b hb' => (h.zB b hb').1, fun b hb' => rfl, ⟨Nat.le_refl _, fun _ _ => rfl⟩⟩
    exact .inl (h.ok_lt hb')
  have h1 := hr.pure_move kp rfl
  cases h1 with
  | ints l v h1 =>
    refine .ints l v ?_
    revert h1
    generalize hcs : icells l = cs
    intro h1
    cases h1 with
    | sl0 sz a cap => exact .sl0 1 _ _
    | sl sz l b off cap vf hok hcap hl hc hh =>
      refine .sl 1 _ b off cap vf hok hcap hl hc fun i e j a hi hj => ?_
      have := hh i e j a hi hj
      rw [← hcs] at hi
      obtain ⟨x, hx, rfl⟩ := icells_get.1 hi
      cases j with
      | succ j => simp at hj
      | zero =>
        simp at hj
        subst hj
        revert this
        generalize vf i 0 = z
        intro this
        cases this
        exact .val _
def digE (n : Int) (c k : List Int) (r : Int) : Int := if EpV n c k r = true then dig (epT n c k r) else -1
theorem digE_ok {n r : Int} {c k : List Int} (h : EpV n c k r = true) : digE n c k r = dig (epT n c k r) := by rw [digE, if_pos h]
theorem digE_rng {n r : Int} {c k : List Int} (h : EpV n c k r = true) : 0 ≤ digE n c k r ∧ digE n c k r ≤ 990 := by
  rw [digE_ok h]
  exact dig_bound _
theorem ed_no {n r : Int} {c k : List Int} (hv : EpV n c k r = false) (hc : c.length < 2000000) (hk : k.length < 2000000) {w : World} {v1 v2 : Value} (h1 : RepV (outC w) (.ints c) v1) (h2 : RepV (outC w) (.ints k) v2) :
    Calls Tryd.prog 40 #[.agg #[.int .i64 n, v1, v2, .int .i64 r]] w fun e w' => e = .returned (.int .i64 (-1)) ∧ Below w.heap.size w w' := by
  go_enter Tryd.func40, Tryd.ntmps40
  have hb0 : Below w.heap.size w (w.alloc (.cells #[.int .i64 n, v1, v2, .int .i64 r] 28)) := (Below.refl _ w).alloc (Nat.le_refl _) _
  go_wp2_with (go_at_call 22; refine (valid_calls (c := c) (k := k) (by omega) (by omega) (h1.pure_move (out_keeps hb0) rfl) (h2.pure_move (out_keeps hb0) rfl)).mono ?_)
  rintro e w2 ⟨rfl, hb2⟩
  rw [hv]
  go_wp2
  go_ret
  exact ⟨rfl, hb0.trans (hb2.mono (by simp))⟩
def c_impl_EpochDigest : Con := ⟨0, 0, false, fun xs hs Fs K => match xs with
  | [.agg [.val (.int .i64 n), .ints c, .ints k, .val (.int .i64 r)]] => hs = [] ∧ hasTab Fs ∧ c.length < 2000000 ∧ k.length < 2000000 ∧ K (I (digE n c k r)) [] []
  | _ => False⟩
theorem k_impl_EpochDigest : Keeps' Tryd.prog 40 c_impl_EpochDigest := by
  rintro E args aargs hs Fs K h hlen hn0 hsat hrep hfx
  simp only [c_impl_EpochDigest] at h
  split at h
  case h_2 => exact h.elim
  rename_i n c k r
  obtain ⟨rfl, ht, hc, hk, h⟩ := h
  obtain ⟨a, rfl⟩ : ∃ a, args = [a] := by
    rcases args with _ | ⟨a, _ | ⟨b, t⟩⟩
    · simp at hlen
    · exact ⟨a, rfl⟩
    · simp at hlen
  have h0 := hrep 0 _ a rfl rfl
  cases h0 with
  | agg cs vs hl h1 hh =>
    obtain ⟨a0, v1, v2, a3, rfl⟩ : ∃ a0 v1 v2 a3, vs = [a0, v1, v2, a3] := by
      rcases vs with _ | ⟨a0, _ | ⟨a1, _ | ⟨a2, _ | ⟨a3, _ | ⟨a4, t⟩⟩⟩⟩⟩ <;> simp at hl
      exact ⟨a0, a1, a2, a3, rfl⟩
    have e0 := hh 0 _ a0 rfl rfl
    have e1 := hh 1 _ v1 rfl rfl
    have e2 := hh 2 _ v2 rfl rfl
    have e3 := hh 3 _ a3 rfl rfl
    cases e0
    cases e3
    have r1 := rep_out hsat e1
    have r2 := rep_out hsat e2
    have htab := tab_of hsat ht
    by_cases hv : EpV n c k r = true
    · refine (ed_walk hv r1 r2 htab).mono ?_
      rintro e w' ⟨rfl, hb⟩
      rw [digE_ok hv] at h
      exact ret_below hsat hn0 rfl hb h
    · have hv : EpV n c k r = false := by simpa using hv
      refine (ed_no hv hc hk r1 r2).mono ?_
      rintro e w' ⟨rfl, hb⟩
      rw [digE, hv, if_neg (by simp)] at h
      exact ret_below hsat hn0 rfl hb h
theorem str_eq {a b : ByteArray} (h : a.data.toList = b.data.toList) : AV.val (.string a) = AV.val (.string b) := by
  obtain ⟨⟨a⟩⟩ := a
  obtain ⟨⟨b⟩⟩ := b
  simp at h
  rw [h]
theorem itoa_dec {x : Int} (h : 0 ≤ x) : Lib.itoa x = Lib.decDigits x.toNat := by
  unfold Lib.itoa
  rw [if_neg (by omega)]
def c_spec_l41Digest : Con := ⟨0, 0, false, fun xs hs _ K => match xs with
  | [.agg [.val (.int .i64 n), .ints c, .ints k, .val (.int .i64 r)]] => hs = [] ∧ EpV n c k r = true ∧ K (I (digE n c k r)) [] []
  | _ => False⟩
theorem k_spec_l41Digest : Keeps' Tryd.prog 33 c_spec_l41Digest := by
  refine keeps_of_vc mix TyT_ok (cok_cons k_spec_l6Dec Tryd.func45 rfl rfl (cok_cons k_spec_l2Text Tryd.func46 rfl rfl cok_nil)) Tryd.func33 rfl rfl rfl ?_
  intro aargs hs Fs K h
  simp only [c_spec_l41Digest] at h
  split at h
  case h_2 => exact h.elim
  rename_i n c k r
  obtain ⟨rfl, hv, h⟩ := h
  rw [digE_ok hv] at h
  obtain ⟨⟨n0, n1⟩, ⟨r0, r1⟩, lc0, lc1, lk, hcx, hkx⟩ := EpV_out hv
  have q0 := dec_len 2 n.toNat (by omega)
  have q1 := dec_len 2 r.toNat (by omega)
  have hcl : ∀ {i : Nat} {x : Int}, c[i]? = some x → 0 ≤ x ∧ x < 1000000 ∧ x < 10 ^ 4 ∧ (Lib.decDigits x.toNat).length ≤ 3 := fun hx => by
    have := hcx _ (List.mem_of_getElem? hx)
    exact ⟨by omega, by omega, by omega, dec_len 2 _ (by omega)⟩
  have hkl : ∀ {i : Nat} {x : Int}, k[i]? = some x → 0 ≤ x ∧ x < 1000000 ∧ x < 10 ^ 4 ∧ (Lib.decDigits x.toNat).length ≤ 3 := fun hx => by
    have := hkx _ (List.mem_of_getElem? hx)
    exact ⟨by omega, by omega, by omega, dec_len 2 _ (by omega)⟩
  have i0 := itoa_len (x := n) n0 (by omega)
  have i1 := itoa_len (x := r) r0 (by omega)
  repeat' (first|((conv=>whnf); (first|refine draw_plan (id := 1) [] [] (.take 0 (.take 1 (.take 4 (.take 5 (.run 2 (.take 3 (.run 6 (.take 7 (.take 8 .done))))))))) (by kernel_rfl) (by kernel_rfl) ?_|refine draw_plan (id := 5) [] [] (.take 0 (.take 1 (.take 2 (.take 3 (.take 4 (.take 5 (.take 6 (.take 10 (.take 11 (.take 12 (.take 13 (.take 14 (.run 7 (.take 8 (.take 9 (.run 15 (.take 16 (.take 17 .done)))))))))))))))))) (by kernel_rfl) (by kernel_rfl) ?_|refine brK_dec (fun _=>?_) (fun _=>?_)|refine brK_ndec (fun _=>?_) (fun _=>?_)|refine brK_not (fun _=>?_) (fun _=>?_)|refine brK_in (fun _=>?_) (fun _=>?_)|refine And.intro (by first|exact rfl|exact (by simp [ByteArray.size]; omega)|exact ⟨_,rfl,rfl⟩|exact ⟨rfl,rfl,rfl⟩|exact of_decide_eq_true rfl|exact trivial|assumption|omega|(show (_ ≤ _ ∧ _ ≤ _); omega)|(simp; omega)|exact ⟨by first|omega|(simp; omega),_,rfl,rfl⟩) ?_|refine Quo.l (And.intro (by first|exact rfl|exact (by simp [ByteArray.size]; omega)|assumption|omega|(simp; omega)) ?_)|refine Quo.r (And.intro (by omega) ?_)|refine Both.mk ?_ ?_|refine Exists.intro _ (And.intro rfl ?_)|refine fun _=>?_))|exact rfl)
  refine loop_in (ι := Nat) (fun i => mkS 39 [(1, .ptr 0 0), (2, I 0), (3, .val (.string ⟨(Lib.itoa n ++ 58 :: (Lib.itoa r ++ pairT (c.take i) (k.take i))).toArray⟩)), (4, I i)] [.cells [I n, .ints c, .ints k, I r]] Fs) (fun i => i ≤ c.length) (fun i => c.length - i) 0 [0] (Nat.zero_le _) ?_ ?_
  · repeat' (first|((conv=>whnf); (first|refine brK_dec (fun _=>?_) (fun _=>?_)|refine brK_ndec (fun _=>?_) (fun _=>?_)|refine brK_not (fun _=>?_) (fun _=>?_)|refine brK_in (fun _=>?_) (fun _=>?_)|refine And.intro (by first|exact rfl|exact (str_eq (by rw [itoa_dec n0,itoa_dec r0]; simp [pairT]))|exact ⟨_,rfl,rfl⟩|exact ⟨rfl,rfl,rfl⟩|exact of_decide_eq_true rfl|exact trivial|assumption|omega|(show (_ ≤ _ ∧ _ ≤ _); omega)|(simp; omega)|exact ⟨by first|omega|(simp; omega),_,rfl,rfl⟩) ?_|refine Quo.l (And.intro (by first|exact rfl|exact (str_eq (by rw [itoa_dec n0,itoa_dec r0]; simp [pairT]))|assumption|omega|(simp; omega)) ?_)|refine Quo.r (And.intro (by omega) ?_)|refine Both.mk ?_ ?_|refine Exists.intro _ (And.intro rfl ?_)|refine fun _=>?_))|exact rfl)
  intro i hi
  have lt1 : (pairT (c.take i) (k.take i)).length ≤ 8 * (c.take i).length := pair_len (fun z hz => hcx z (List.mem_of_mem_take hz)) (fun z hz => hkx z (List.mem_of_mem_take hz))
  rw [List.length_take] at lt1
  repeat' (first|((conv=>whnf); (first|refine draw_plan (id := 1) [] [] (.take 0 (.take 1 (.take 4 (.take 5 (.run 2 (.take 3 (.run 6 (.take 7 (.take 8 .done))))))))) (by kernel_rfl) (by kernel_rfl) ?_|refine draw_plan (id := 5) [] [] (.take 0 (.take 1 (.take 2 (.take 3 (.take 4 (.take 5 (.take 6 (.take 10 (.take 11 (.take 12 (.take 13 (.take 14 (.run 7 (.take 8 (.take 9 (.run 15 (.take 16 (.take 17 .done)))))))))))))))))) (by kernel_rfl) (by kernel_rfl) ?_|refine brK_dec (fun _=>?_) (fun _=>?_)|refine brK_ndec (fun _=>?_) (fun _=>?_)|refine brK_not (fun _=>?_) (fun _=>?_)|refine brK_in (fun _=>?_) (fun _=>?_)|refine And.intro (by first|exact rfl|exact (by first|exact (hcl (by assumption)).1|exact (hcl (by assumption)).2.1|exact (hcl (by assumption)).2.2.1|exact (hkl (by assumption)).1|exact (hkl (by assumption)).2.1|exact (hkl (by assumption)).2.2.1|(simp [ByteArray.size]; omega)|(have z1 := (hcl (by assumption)).2.2.2; simp [ByteArray.size]; omega)|(have z1 := (hcl (by assumption)).2.2.2; have z2 := (hkl (by assumption)).2.2.2; simp [ByteArray.size]; omega))|exact ⟨_,rfl,rfl⟩|exact ⟨rfl,rfl,rfl⟩|exact of_decide_eq_true rfl|exact trivial|assumption|omega|(show (_ ≤ _ ∧ _ ≤ _); omega)|(simp; omega)|exact ⟨by first|omega|(simp; omega),_,rfl,rfl⟩) ?_|refine Quo.l (And.intro (by first|exact rfl|exact (by first|exact (hcl (by assumption)).1|exact (hcl (by assumption)).2.1|exact (hcl (by assumption)).2.2.1|exact (hkl (by assumption)).1|exact (hkl (by assumption)).2.1|exact (hkl (by assumption)).2.2.1|(simp [ByteArray.size]; omega)|(have z1 := (hcl (by assumption)).2.2.2; simp [ByteArray.size]; omega)|(have z1 := (hcl (by assumption)).2.2.2; have z2 := (hkl (by assumption)).2.2.2; simp [ByteArray.size]; omega))|assumption|omega|(simp; omega)) ?_)|refine Quo.r (And.intro (by omega) ?_)|refine Both.mk ?_ ?_|refine Exists.intro _ (And.intro rfl ?_)|refine fun _=>?_))|exact rfl)
  · rename_i hil x hx y hy
    refine ⟨i + 1, [0], by omega, by omega, ?_⟩
    have p1 := hcl hx
    have p2 := hkl hy
    have e := pair_take (i := i) hx hy
    repeat' (first|((conv=>whnf); (first|refine brK_dec (fun _=>?_) (fun _=>?_)|refine brK_ndec (fun _=>?_) (fun _=>?_)|refine brK_not (fun _=>?_) (fun _=>?_)|refine brK_in (fun _=>?_) (fun _=>?_)|refine And.intro (by first|exact rfl|exact (str_eq (by rw [e,itoa_dec p1.1,itoa_dec p2.1]; simp))|exact ⟨_,rfl,rfl⟩|exact ⟨rfl,rfl,rfl⟩|exact of_decide_eq_true rfl|exact trivial|assumption|omega|(show (_ ≤ _ ∧ _ ≤ _); omega)|(simp; omega)|exact ⟨by first|omega|(simp; omega),_,rfl,rfl⟩) ?_|refine Quo.l (And.intro (by first|exact rfl|exact (str_eq (by rw [e,itoa_dec p1.1,itoa_dec p2.1]; simp))|assumption|omega|(simp; omega)) ?_)|refine Quo.r (And.intro (by omega) ?_)|refine Both.mk ?_ ?_|refine Exists.intro _ (And.intro rfl ?_)|refine fun _=>?_))|exact rfl)
  · rename_i hil
    have e1 : c.take i = c := List.take_of_length_le (by omega)
    have e2 : k.take i = k := List.take_of_length_le (by omega)
    rw [e1, e2]
    exact h
end Go.Proofs.YtdljacpmoaeepaaDoor
