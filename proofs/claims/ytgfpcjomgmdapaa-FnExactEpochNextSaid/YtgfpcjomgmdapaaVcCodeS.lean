/-
The condition of a whole body is enough: soundness of the steps on lists.
No conditions.
-/
import Derived.Test.YtgfpcjomgmdapaaVcCode
import Derived.Deep.LoopGhost
namespace Go.Vc
variable {P : Program} {T : TT} {C : CT} {E : Entry} {w : World} {ρ : Nat → Nat} {A : FA} {s : LS} {a : Act} {o : Oper} {n0 : Nat} {Q : Exit → Act → World → Prop}

abbrev SatL (E : Entry) (s : LS) (a : Act) (w : World) (ρ : Nat → Nat) (A : FA) : Prop := Sat E s.toF s.env.length a w ρ A
/-- What an operation leaves: a state that K accepts; the objects of 'pk' as they were. -/
def Post (E : Entry) (s : LS) (ρ₀ : Nat → Nat) (w₀ : World) (pk : List Nat) (K : LS → Prop) : Act → World → Prop := fun a' w' => ∃ s', K s' ∧ E.n0 ≤ s'.H.length ∧ ∃ ρ A, SatL E s' a' w' ρ A ∧ Fr (listH s.H) ρ₀ w₀ (fun k => k ∉ pk) (listH s'.H) ρ w'
theorem Fr.mono {H H' : Nat → AO} {ρ ρ' : Nat → Nat} {w w' : World} {t t' : Nat → Prop} (h : Fr H ρ w t H' ρ' w') (ht : ∀ k, t k → t' k) : Fr H ρ w t' H' ρ' w' :=
  ⟨h.size, fun b hb hn => h.same b hb fun k ha hk => hn k ha (ht k hk), h.src, fun k ha hn => h.keep k ha fun hk => hn (ht k hk)⟩
theorem Fr.trans {H H' H'' : Nat → AO} {ρ ρ' ρ'' : Nat → Nat} {w w' w'' : World} {t : Nat → Prop} (h : Fr H ρ w t H' ρ' w') (h' : Fr H' ρ' w' t H'' ρ'' w'') : Fr H ρ w t H'' ρ'' w'' := by
  refine ⟨Nat.le_trans h.size h'.size, fun b hb hn => ?_, fun k hk => ?_, fun k ha hn => ?_⟩
  · rw [h'.same b (Nat.lt_of_lt_of_le hb h.size) fun k hk ht => ?_, h.same b hb hn]
    rcases h.src k hk with ⟨h1, h2⟩ | h1
    · rw [h2]; exact hn k h1 ht
    · omega
  · rcases h'.src k hk with ⟨h1, h2⟩ | h1
    · rcases h.src k h1 with ⟨h3, h4⟩ | h3
      · exact .inl ⟨h3, h2.trans h4⟩
      · exact .inr (by rw [h2]; exact h3)
    · exact .inr (Nat.le_trans h.size h1)
  · obtain ⟨h1, h2⟩ := h.keep k ha hn
    obtain ⟨h3, h4⟩ := h'.keep k h1 hn
    exact ⟨h3, h4.trans h2⟩

theorem forceC_out {x : AV} {k : AV → Prop} (h : forceC x k) : k x := by
  cases x with
  | ptr i o => exact litK_out (k := fun o => k (.ptr i o)) (litK_out (k := fun i => litK o fun o => k (.ptr i o)) h)
  | el i j o => exact litK_out (k := fun o => k (.el i j o)) (litK_out (k := fun i => litK o fun o => k (.el i j o)) h)
  | own i => exact litK_out (k := fun i => k (.own i)) h
  | sub i p q => exact litK_out (k := fun i => k (.sub i p q)) h
  | win i o n => exact litK_out (k := fun o => k (.win i o n)) (litK_out (k := fun i => litK o fun o => k (.win i o n)) h)
  | clo f i => exact litK_out (k := fun i => k (.clo f i)) h
  | rp f i o => exact litK_out (k := fun o => k (.rp f i o)) (litK_out (k := fun f => litK o fun o => k (.rp f i o)) h)
  | _ => exact h
theorem forceL_out : ∀ {l : List AV} {k : List AV → Prop}, forceL l k → k l
  | [], _, h => h
  | _ :: t, _, h => forceL_out (l := t) (forceC_out h)
theorem forceB_out {x : AV} {k : AV → Prop} (h : forceB x k) : k x := by
  have h := forceC_out h
  cases x with
  | agg cs => exact forceL_out h
  | _ => exact h
theorem forceM_out : ∀ {l : List AV} {k : List AV → Prop}, forceM l k → k l
  | [], _, h => h
  | _ :: t, _, h => forceM_out (l := t) (forceB_out h)
theorem forceA_out {x : AV} {k : AV → Prop} (h : forceA x k) : k x := by
  have h := forceB_out h
  cases x with
  | tup cs => exact forceM_out h
  | _ => exact h
theorem forceO_out {x : AO} {k : AO → Prop} (h : forceO x k) : k x := by
  cases x with
  | cells cs => exact forceL_out h
  | _ => exact h
theorem setK_out {α : Type} : ∀ {l : List α} {n : Nat} {v : α} {k : List α → Prop}, setK l n v k → k (l.set n v)
  | [], _, _, _, h => h
  | _ :: _, 0, _, _, h => h
  | _ :: t, n + 1, v, _, h => setK_out (l := t) (n := n) (v := v) h
theorem setHK_out : ∀ {l : List AO} {n : Nat} {v : AO} {k : List AO → Prop}, setHK l n v k → k (l.set n v) ∧ n < l.length
  | [], _, _, _, h => h.elim
  | _ :: _, 0, _, _, h => ⟨h, by simp⟩
  | _ :: t, n + 1, v, _, h => by
    have := setHK_out (l := t) (n := n) (v := v) h
    exact ⟨this.1, by simpa using this.2⟩
theorem mapK_out {f : AV → AV} : ∀ {l : List AV} {k : List AV → Prop}, mapK f l k → k (l.map f)
  | [], _, h => h
  | _ :: t, _, h => mapK_out (l := t) (forceA_out h)
theorem mapOK_out {f : AO → AO} : ∀ {l : List AO} {k : List AO → Prop}, mapOK f l k → k (l.map f)
  | [], _, h => h
  | _ :: t, _, h => mapOK_out (l := t) (forceO_out h)
theorem snocK_out : ∀ {l r : List AO} {k : List AO → Prop}, snocK l r k → k (l ++ r)
  | [], r, k, h => by
    have := mapOK_out (f := id) (l := r) h
    simpa using this
  | _ :: t, _, _, h => snocK_out (l := t) h
theorem appK_out : ∀ {l r : List Fam} {k : List Fam → Prop}, appK l r k → k (l ++ r)
  | [], _, _, h => h
  | _ :: t, _, _, h => appK_out (l := t) h

theorem listH_set {H : List AO} {n : Nat} {o : AO} (hn : n < H.length) : listH (H.set n o) = setH (listH H) n o := by
  funext i
  simp only [listH, setH, List.getD, List.getElem?_set]
  by_cases e : i = n
  · subst e; simp [hn]
  · have e' : ¬ n = i := fun h => e h.symm
    simp [e, e']
theorem listH_snoc {H : List AO} {o : AO} : listH (H ++ [o]) = setH (listH H) H.length o := by
  funext i
  simp only [listH, setH, List.getD]
  by_cases e : i = H.length
  · subst e; simp
  · rw [if_neg e]
    by_cases hlt : i < H.length
    · rw [List.getElem?_append_left hlt]
    · rw [List.getElem?_append_right (by omega), List.getElem?_eq_none (l := H) (by omega), List.getElem?_eq_none (by simp; omega)]
theorem listH_ext : ∀ {new : List AO} {H : List AO}, listH (H ++ new) = extH (listH H) H.length new
  | [], H => by simp [extH]
  | o :: r, H => by
    have := listH_ext (new := r) (H := H ++ [o])
    simp only [List.append_assoc, List.singleton_append, List.length_append, List.length_singleton] at this
    rw [this, listH_snoc]; rfl
theorem listH_map {f : AV → AV} {H : List AO} : listH (H.map (mapO f)) = fun i => mapO f (listH H i) := by
  funext i
  simp only [listH, List.getD, List.getElem?_map]
  cases H[i]? <;> rfl
theorem env_map {f : AV → AV} (hf : mapR f .any = .any) (l : List AV) : (fun t => (l.map (mapR f)).getD t .any) = fun t => mapR f (l.getD t .any) := by
  funext i
  simp only [List.getD, List.getElem?_map]
  cases l[i]? with
  | some x => rfl
  | none => simp [hf]
theorem listH_dead {H : List AO} {i : Nat} (h : H.length ≤ i) : listH H i = .dead := by simp [listH, List.getD, h]

theorem updK_out : ∀ {H : List AO} {upd : List (Nat × AO)} {k : List AO → Prop}, updK H upd k → ∃ H', k H' ∧ listH H' = updH (listH H) upd ∧ H'.length = H.length
  | H, [], _, h => ⟨H, h, rfl, rfl⟩
  | H, (i, o) :: r, k, h => by
    obtain ⟨h1, h2⟩ := setHK_out (forceO_out h)
    obtain ⟨H', h3, h4, h5⟩ := updK_out (upd := r) h1
    exact ⟨H', h3, by rw [h4, listH_set h2]; rfl, by simpa using h5⟩

theorem putK_out {d : Option Tmp} {x : AV} {K : LS → Prop} (h : putK s d x K) : ∃ s', K s' ∧ s'.toF = ⟨setE s.toF.env s.env.length d x, s.toF.H, s.toF.F⟩ ∧ s'.env.length = s.env.length ∧ s'.H = s.H := by
  obtain ⟨env, H, F0, NF⟩ := s
  unfold putK at h
  have h := forceA_out h
  cases d with
  | none => exact ⟨⟨env, H, F0, NF⟩, h, by simp only [LS.toF, FS.mk.injEq, and_true]; funext t; simp [setE], rfl, rfl⟩
  | some t =>
    refine ⟨_, setK_out h, ?_, by simp, rfl⟩
    simp only [LS.toF, FS.mk.injEq, and_true]
    funext i
    simp only [setE, List.getD, List.getElem?_set, Option.some.injEq]
    by_cases e : i = t
    · subst e
      by_cases hlt : i < env.length
      · simp [hlt]
      · simp [hlt]
    · have e' : ¬ t = i := fun h => e h.symm
      simp [e, e']

theorem setB_out {d : Tmp} {b : Bool} {K : LS → Prop} (hd : s.env.getD d .any = .val (.bool b)) (h : setB s d b K) : K s := by
  obtain ⟨env, H, F0, NF⟩ := s
  unfold setB at h
  have h := setK_out h
  have hd : env.getD d .any = .val (.bool b) := hd
  have e : env.set d (.val (.bool b)) = env := by
    have hlt : d < env.length := by
      rcases Nat.lt_or_ge d env.length with h1 | h1
      · exact h1
      · simp [List.getD, h1] at hd
    have : env[d] = .val (.bool b) := by simpa [List.getD, hlt] using hd
    rw [← this]
    exact List.set_getElem_self hlt
  rw [e] at h
  exact h
theorem setC_out {c : Operand} {b : Bool} {K : LS → Prop} (hd : s.ev c = .val (.bool b)) (h : setC s c b K) : K s := by
  cases c with
  | tmp d => exact setB_out hd h
  | _ => exact h

theorem effK_out {d : Option Tmp} {e : Eff} {K : LS → Prop} (h : effK s d e K) : ∃ s', K s' ∧ s'.toF = applyF s.toF s.env.length s.H.length d e ∧ s'.env.length = s.env.length ∧ s.H.length ≤ s'.H.length := by
  unfold effK at h
  split at h
  case h_3 => exact h.elim
  case h_1 env H F0 NF val upd new =>
    obtain ⟨H', h1, h2, h3⟩ := updK_out h
    have h4 := snocK_out h1
    obtain ⟨s', hK, h5, h6, h7⟩ := putK_out h4
    refine ⟨s', hK, ?_, h6, by rw [h7]; simp [h3]⟩
    rw [h5]
    simp only [LS.toF, applyF, killE, killH, addF]
    rw [listH_ext, h2, h3]
  case h_2 env H F0 NF val k upd new =>
    have h0 := mapOK_out (mapK_out h)
    obtain ⟨H', h1, h2, h3⟩ := updK_out h0
    have h4 := snocK_out h1
    obtain ⟨s', hK, h5, h6, h7⟩ := putK_out h4
    refine ⟨s', hK, ?_, by simpa using h6, by rw [h7]; simp [h3]⟩
    rw [h5]
    simp only [LS.toF, applyF, killE, killH, addF, List.length_map]
    rw [listH_ext, h2, h3, listH_map, env_map (by rfl), List.length_map]

theorem ev_rep (h : SatL E s a w ρ A) (x : Operand) : RepV (ctxOf E s.toF.H w ρ A) (s.ev x) (a.eval x) := by
  cases x with
  | tmp t => exact h.env t
  | const v => exact .val v
  | global g => exact .val _
  | func f => exact .val _

/-- An object becomes memory that is only read. -/
theorem Sat.freeze {S : FS} {tm k : Nat} (h : Sat E S tm a w ρ A) (hk : E.n0 ≤ k) : Sat E ⟨fun t => mapR (frzF k (S.H k)) (S.env t), mapH (frzF k (S.H k)) S.H k .dead, S.F⟩ tm a w ρ A := by
  have st : StepOk E S.H w ρ A k .dead (ρ k) w (mapH (frzF k (S.H k)) S.H k .dead) :=
    ⟨rfl, rfl, rfl, Nat.le_refl _, fun _ _ _ => rfl, fun h => absurd rfl h, fun i hi => by simp [alive, mapH, hi, mapO_dead], by simp [mapH], fun _ h => (by cases h), fun _ _ h => absurd rfl h, fun _ _ _ vs T fr h => ⟨vs, T, fr, h, Nat.le_refl _⟩⟩
  have kp := st.keeps h.toSatW
  have := h.stepMap (frzF k (S.H k)) st (fun r hr => by simp [frzF, hr]) trivial (fun r v hr hv => by
    have hal : alive S.H k := by
      obtain ⟨k', hk', ha⟩ := RepO.alive_of (by cases r <;> simp_all [refOf, isRef]) hv
      rw [hr] at hk'
      cases hk'
      exact ha
    simp only [frzF, hr, if_true]
    have hp := h.place k hal
    refine roView_rep hr hv (h.obj k) kp (.inr ⟨?_, hp.1, fun j hj => ?_⟩) rfl
    · rcases hp.2 with h1 | h1
      · exact h1
      · omega
    · rw [setρ_self]
      intro e
      by_cases hjk : j = k
      · subst hjk; exact hj (by simp [mapH])
      · have hj' : alive S.H j := by
          have : mapH (frzF k (S.H k)) S.H k .dead j ≠ .dead := hj
          simpa [mapH, hjk, mapO_dead] using this
        exact hjk (h.inj j k hj' hal e))
  rw [setρ_self] at this
  exact this

theorem frzK_out (hn0 : E.n0 = n0) {pk : List Nat} : ∀ {ks : List Nat} {s : LS} {K : LS → Prop}, frzK n0 pk ks s K → SatL E s a w ρ A → ∃ s', K s' ∧ SatL E s' a w ρ A ∧ s'.env.length = s.env.length ∧ s'.H.length = s.H.length ∧ Fr (listH s.H) ρ w (fun k => k ∉ pk) (listH s'.H) ρ w
  | [], s, K, h, hs => ⟨s, h, hs, rfl, rfl, .refl⟩
  | k :: r, ⟨env, H, F0, NF⟩, K, h, hs => by
    unfold frzK at h
    split at h
    · exact frzK_out (s := ⟨env, H, F0, NF⟩) hn0 h hs
    · rename_i ob hne
      obtain ⟨hk, h⟩ := h
      obtain ⟨h, hoff⟩ := offP_out h
      have hkp : k ∉ pk := hoff k (by simp)
      have h := mapOK_out (mapK_out h)
      obtain ⟨h1, h2⟩ := setHK_out h
      have hs' := hs.freeze (k := k) (by omega)
      have e : (⟨env.map (mapR (frzF k (listH H k))), (H.map (mapO (frzF k (listH H k)))).set k .dead, F0, NF⟩ : LS).toF = ⟨fun t => mapR (frzF k (listH H k)) (env.getD t .any), mapH (frzF k (listH H k)) (listH H) k .dead, F0 ++ NF⟩ := by
        simp only [LS.toF, FS.mk.injEq, and_true]
        refine ⟨?_, ?_⟩
        · rw [env_map (by rfl)]
        · rw [listH_set h2, listH_map]; rfl
      obtain ⟨s', h3, h4, h5, h6, h7⟩ := frzK_out (s := ⟨env.map (mapR (frzF k (listH H k))), (H.map (mapO (frzF k (listH H k)))).set k .dead, F0, NF⟩) hn0 h1 (by
        unfold SatL
        rw [e]
        have el : (⟨env.map (mapR (frzF k (listH H k))), (H.map (mapO (frzF k (listH H k)))).set k .dead, F0, NF⟩ : LS).env.length = env.length := by simp
        rw [el]
        exact hs')
      have eH := congrArg FS.H e
      have eH : listH ((H.map (mapO (frzF k (listH H k)))).set k .dead) = mapH (frzF k (listH H k)) (listH H) k .dead := eH
      refine ⟨s', h3, h4, by simpa using h5, by simpa using h6, Fr.trans ⟨Nat.le_refl _, fun _ _ _ => rfl, fun i hi => .inl ⟨?_, rfl⟩, fun i hi hn => ⟨?_, rfl⟩⟩ h7⟩
      · show alive (listH H) i
        simp only at hi
        rw [eH] at hi
        unfold alive mapH at hi
        split at hi
        · exact absurd rfl hi
        · exact fun hd => hi (mapO_dead.2 hd)
      · simp only
        rw [eH]
        have hik : i ≠ k := by rintro rfl; exact hn hkp
        unfold alive mapH
        rw [if_neg hik]
        exact fun hd => hi (mapO_dead.1 hd)

theorem upon_mono {next next' : Act → World → Prop} (h : ∀ a w, next a w → next' a w) {r : Result Next} (hr : o.upon P a next Q r) : o.upon P a next' Q r := by
  unfold Oper.upon at hr ⊢
  split at hr
  · exact h _ _ hr
  · exact h _ _ hr
  · exact h _ _ hr
  · refine Calls.mono hr fun e w' => ?_
    cases e with
    | returned v => exact h _ _
    | panicked ch => exact id
    | outgrown => exact id
  · exact Rows.mono hr fun v w' => h _ _
  · exact hr
  · exact hr.elim
theorem wp_mono_next {next next' : Act → World → Prop} (h : ∀ a w, next a w → next' a w) (hr : o.wp P a w next Q) : o.wp P a w next' Q := upon_mono h hr

theorem value_post {pk : List Nat} (hs : SatL E s a w ρ A) (hle : E.n0 ≤ s.H.length) {K : LS → Prop} {v : Value} {x : AV} (hrun : (execOp a.eval o).run P w = .ok (.value v) w) (hx : RepV (ctxOf E s.toF.H w ρ A) x v) (h : putK s o.dst x K) : o.wp P a w (Post E s ρ w pk K) Q := by
  unfold Oper.wp
  rw [hrun]
  obtain ⟨s', hK, h1, h2, h3⟩ := putK_out h
  refine ⟨s', hK, by rw [h3]; exact hle, ρ, A, ?_, by rw [h3]; exact .refl⟩
  unfold SatL
  rw [h1, h2]
  exact Sat.put hs o.dst hx

theorem tchE_mem {e : Eff} {k : Nat} (h : tchE e k) : k ∈ tchL e := by
  rcases h with ⟨ob, h⟩ | h
  · exact List.mem_append_left _ (List.mem_map.2 ⟨_, h, rfl⟩)
  · exact List.mem_append_right _ (by simp [h])
theorem mem_post {pk : List Nat} {K : LS → Prop} (hle : E.n0 ≤ s.H.length) (h : o.wp P a w (Fin E s.toF s.env.length s.H.length o.dst ρ w fun e => fixP C.fx n0 e.kill (offP pk (tchL e) (effK s o.dst e K))) Q) : o.wp P a w (Post E s ρ w pk K) Q := by
  refine wp_mono_next ?_ h
  rintro a' w' ⟨e, he, ρ', A', hs, hfr⟩
  obtain ⟨he, hoff⟩ := offP_out (fixP_out he).1
  obtain ⟨s', hK, h1, h2, h3⟩ := effK_out he
  have hH : listH s'.H = (applyF s.toF s.env.length s.H.length o.dst e).H := by rw [← h1]; rfl
  refine ⟨s', hK, Nat.le_trans hle h3, ρ', A', ?_, ?_⟩
  · unfold SatL
    rw [h1, h2]
    exact hs
  · rw [hH]
    exact hfr.mono fun k hk => hoff k (tchE_mem hk)

theorem memA_sound {S : FS} {tm n : Nat} {EV : Operand → AV} {K : Eff → Prop} (h : Sat E S tm a w ρ A) (hn0 : E.n0 ≤ n) (hn : S.H n = .dead) (hT : TOk P T) (hev : ∀ x, RepV (ctxOf E S.H w ρ A) (EV x) (a.eval x)) (hm : memA T S.H EV n o.op K) (hKf : ∀ e, K e → E.fx = true → ∀ k, e.kill = some k → E.n0 ≤ k) :
    o.wp P a w (Fin E S tm n o.dst ρ w K) Q := by
  unfold memA at hm
  split at hm
  case h_1 t hop => exact alloc_sound h hn0 hn hT hop hm
  case h_2 t x hop => exact box_sound h hn0 hn hev hop hm
  case h_3 t p x hop => exact store_sound h hT hev hop hm
  case h_4 t len parts hop => exact buildSlice_sound h hn0 hn hT hev hop hm
  case h_5 t l c hop => exact makeSlice_sound h hn0 hn hT hev hop hm
  case h_6 args argTypes hop =>
    split at hm
    case h_2 => exact hm.elim
    case h_1 s x t t2 h1 h2 =>
      have ha : args = #[s, x] := by apply Array.ext'; simpa using h1
      have ht : argTypes = #[t, t2] := by apply Array.ext'; simpa using h2
      subst ha ht
      exact appendA_sound h hn0 hn hT hev hop hm hKf
  case h_7 args argTypes hop =>
    split at hm
    case h_2 => exact hm.elim
    case h_1 s x t t2 h1 h2 =>
      have ha : args = #[s, x] := by apply Array.ext'; simpa using h1
      have ht : argTypes = #[t, t2] := by apply Array.ext'; simpa using h2
      subst ha ht
      exact copyA_sound h hT hev hop hm
  case h_8 => exact hm.elim

theorem nodupB_out : ∀ {l : List Nat}, nodupB l = true → l.Nodup
  | [], _ => by simp
  | k :: r, h => by
    simp only [nodupB, Bool.and_eq_true, Bool.not_eq_true', List.contains_eq_mem, decide_eq_false_iff_not] at h
    exact List.nodup_cons.2 ⟨h.1, nodupB_out h.2⟩

theorem isAlive_out {o : AO} (h : isAlive o = true) : o ≠ .dead := by rintro rfl; simp [isAlive] at h

theorem retH_list {ρc frz : List Nat} {s : LS} {hs : List AO} (hal : ∀ k ∈ ρc, alive (listH s.H) k) :
    listH ((List.range (s.H.length + (hs.length - ρc.length))).map (retH ρc frz (listH s.H) s.H.length hs)) = retH ρc frz (listH s.H) s.H.length hs := by
  funext k
  by_cases hk : k < s.H.length + (hs.length - ρc.length)
  · simp [listH, List.getD, hk]
  · have e1 : listH ((List.range (s.H.length + (hs.length - ρc.length))).map (retH ρc frz (listH s.H) s.H.length hs)) k = .dead := listH_dead (by simp; omega)
    have hd : listH s.H k = .dead := listH_dead (by omega)
    have hq : ρc.idxOf? k = none := by
      rw [List.idxOf?_eq_none_iff]
      intro hm
      exact hal k hm hd
    rw [e1]
    unfold retH
    rw [hq]
    simp only
    rw [if_neg (by omega), hd]
    split <;> rfl

theorem oldRef_id {H : Nat → AO} {hs : List AO} (r : AV) : oldRef [] [] H hs r = r := by
  unfold oldRef
  split
  · rfl
  · simp

theorem mapO_id {f : AV → AV} (hf : ∀ r, f r = r) (o : AO) : mapO f o = o := by
  cases o with
  | cells cs =>
    have : mapC f = id := funext (mapC_id hf)
    simp [mapO, this]
  | _ => rfl

theorem retH_nil {H : List AO} {hs : List AO} : retH [] [] (listH H) H.length hs = listH (H ++ hs.map (mapO (backF [] H.length))) := by
  funext k
  unfold retH
  simp only [List.idxOf?_nil, List.length_nil, Nat.sub_zero, Nat.zero_add]
  by_cases hk : H.length ≤ k ∧ k < H.length + hs.length
  · rw [if_pos hk]
    simp only [listH, List.getD]
    rw [List.getElem?_append_right hk.1, List.getElem?_map]
    cases hs[k - H.length]? <;> rfl
  · rw [if_neg hk]
    simp only [List.contains_nil, Bool.false_eq_true, if_false]
    rw [mapO_id oldRef_id]
    simp only [listH, List.getD]
    by_cases hlt : k < H.length
    · rw [List.getElem?_append_left hlt]
    · rw [List.getElem?_append_right (by omega), List.getElem?_eq_none (l := H) (by omega), List.getElem?_eq_none (by simp; omega)]

theorem retK_out {ρc frz : List Nat} {d : Option Tmp} {r : AV} {hs : List AO} {nF : List Fam} {K : LS → Prop} (hal : ∀ k ∈ ρc, alive (listH s.H) k) (h : retK s d ρc frz r hs nF K) :
    ∃ s', K s' ∧ s'.toF = ⟨setE (fun t => mapR (oldRef ρc frz s.toF.H hs) (s.toF.env t)) s.env.length d (mapR (backF ρc s.H.length) r), retH ρc frz s.toF.H s.H.length hs, s.toF.F ++ nF⟩ ∧ s'.env.length = s.env.length ∧ s.H.length ≤ s'.H.length := by
  obtain ⟨env, H, F0, NF⟩ := s
  unfold retK at h
  split at h
  · rename_i heq
    cases heq
    obtain ⟨s', hK, h1, h2, h3⟩ := putK_out (appK_out (snocK_out h))
    refine ⟨s', hK, ?_, h2, by rw [h3]; simp⟩
    rw [h1]
    simp only [LS.toF, FS.mk.injEq, List.append_assoc, and_true]
    refine ⟨?_, retH_nil.symm⟩
    have : (fun t => mapR (oldRef [] [] (listH H) hs) (env.getD t .any)) = fun t => env.getD t .any := by
      funext t; exact mapR_id oldRef_id _
    rw [this]
  · rename_i heq _
    cases heq
    obtain ⟨s', hK, h1, h2, h3⟩ := putK_out (appK_out (mapOK_out (mapK_out h)))
    refine ⟨s', hK, ?_, by simpa using h2, by rw [h3]; simp⟩
    rw [h1]
    simp only [LS.toF, FS.mk.injEq, List.append_assoc, and_true, List.map_id]
    refine ⟨?_, retH_list hal⟩
    rw [env_map (by rfl)]
    simp

theorem sameK_out : ∀ {os hs : List AO} {X : Prop}, sameK os hs X → X ∧ hs.length = os.length ∧ ∀ (i : Nat), i < os.length → (listH hs i).info = (listH os i).info ∧ (∃ n, (listH hs i).info = some n) ∧ roFreeO (listH hs i)
  | [], [], _, h => ⟨h, rfl, by simp⟩
  | .iarr l :: r, .iarr l' :: t, X, h => by
    obtain ⟨h1, h2⟩ := h
    obtain ⟨h3, h4, h5⟩ := sameK_out (os := r) (hs := t) h2
    refine ⟨h3, by simp [h4], fun i hi => ?_⟩
    cases i with
    | zero => exact ⟨by simp [listH, AO.info, h1], ⟨_, rfl⟩, trivial⟩
    | succ i => exact h5 i (by simpa using hi)
  | .arr z l :: r, .arr z' l' :: t, X, h => by
    obtain ⟨h0, h1, h6, h2⟩ := h
    subst h0
    obtain ⟨h3, h4, h5⟩ := sameK_out (os := r) (hs := t) h2
    refine ⟨h3, by simp [h4], fun i hi => ?_⟩
    cases i with
    | zero => exact ⟨by simp [listH, AO.info, h1], ⟨_, rfl⟩, h6⟩
    | succ i => exact h5 i (by simpa using hi)
  | [], _ :: _, _, h => h.elim
  | .dead :: _, _, _, h => by unfold sameK at h; exact h.elim
  | .cells _ :: _, _, _, h => by unfold sameK at h; exact h.elim
  | .iarr _ :: _, [], _, h => by unfold sameK at h; exact h.elim
  | .iarr _ :: _, .dead :: _, _, h => by unfold sameK at h; exact h.elim
  | .iarr _ :: _, .cells _ :: _, _, h => by unfold sameK at h; exact h.elim
  | .iarr _ :: _, .arr _ _ :: _, _, h => by unfold sameK at h; exact h.elim
  | .arr _ _ :: _, [], _, h => by unfold sameK at h; exact h.elim
  | .arr _ _ :: _, .dead :: _, _, h => by unfold sameK at h; exact h.elim
  | .arr _ _ :: _, .cells _ :: _, _, h => by unfold sameK at h; exact h.elim
  | .arr _ _ :: _, .iarr _ :: _, _, h => by unfold sameK at h; exact h.elim

theorem updH_zip : ∀ {ρc : List Nat} {hs : List AO} {H : Nat → AO}, hs.length = ρc.length → ρc.Nodup → updH H (ρc.zip hs) = inH ρc H hs
  | [], [], H, _, _ => by funext k; simp [updH, inH]
  | k :: r, o :: t, H, hl, hnd => by
    have hnd' := List.nodup_cons.1 hnd
    rw [List.zip_cons_cons, updH, updH_zip (by simpa using hl) hnd'.2]
    funext j
    unfold inH
    rw [List.idxOf?_cons]
    by_cases e : k = j
    · subst e
      have hq : r.idxOf? k = none := List.idxOf?_eq_none_iff.2 hnd'.1
      simp [hq, setH, listH]
    · have e' : ¬ j = k := fun h => e h.symm
      simp only [beq_iff_eq, e, if_false]
      cases hq : r.idxOf? j with
      | none => simp [setH, e']
      | some i => simp [listH]
  | [], _ :: _, _, h, _ => by simp at h
  | _ :: _, [], _, h, _ => by simp at h

theorem retInK_out {ρc : List Nat} {d : Option Tmp} {r : AV} {hs : List AO} {nF : List Fam} {K : LS → Prop} (hnd : ρc.Nodup) (h : retInK s d ρc r hs nF K) :
    nF = [] ∧ ∃ v, r = .val v ∧ (∀ i, i < ρc.length → (listH hs i).info = (listH s.H (ρc.getD i 0)).info ∧ (∃ n, (listH hs i).info = some n) ∧ roFreeO (listH hs i)) ∧
    ∃ s', K s' ∧ s'.toF = ⟨setE s.toF.env s.env.length d (.val v), inH ρc s.toF.H hs, s.toF.F⟩ ∧ s'.env.length = s.env.length ∧ s.H.length ≤ s'.H.length := by
  obtain ⟨env, H, F0, NF⟩ := s
  unfold retInK at h
  split at h
  case h_2 => exact h.elim
  case h_1 heq =>
    cases heq
    obtain ⟨h1, h2, h3⟩ := sameK_out h
    obtain ⟨H', h4, h5, h6⟩ := updK_out h1
    obtain ⟨s', hK, h7, h8, h9⟩ := putK_out h4
    refine ⟨rfl, _, rfl, fun i hi => ?_, s', hK, ?_, h8, by rw [h9]; simp [h6]⟩
    · have := h3 i (by simpa using hi)
      have e : listH (ρc.map (listH H)) i = listH H (ρc.getD i 0) := by simp [listH, List.getD, hi]
      rw [e] at this
      exact this
    · rw [h7]
      simp only [LS.toF, FS.mk.injEq, and_true, true_and]
      rw [h5, updH_zip (by simpa using h2) hnd]

theorem callK_sound {pk : List Nat} (hs : SatL E s a w ρ A) (hC : COk P C) (hn0 : E.At n0 C) (hle : E.n0 ≤ s.H.length) {f : FuncId} {args : Array Operand} {ats : Array TypeId} {cl : Operand} (hop : o.op = .call { callee := .value cl, args := args, argTypes := ats }) (hcl : a.eval cl = .func (.func f) #[] #[]) {K : LS → Prop}
    (h : callK C n0 pk s o.dst f (args.toList.map s.ev) K) : o.wp P a w (Post E s ρ w pk K) Q := by
  unfold callK at h
  split at h
  case h_1 => exact h.elim
  case h_2 nnew mode alias C0 hcon =>
    obtain ⟨hkeep, fn, hfn, hname, hbody⟩ := hC.1 f ⟨nnew, mode, alias, C0⟩ hcon
    generalize hce : (⟨nnew, mode, alias, C0⟩ : Con) = con at hkeep hcon
    have e1 : nnew = con.nnew := by rw [← hce]
    have e2 : mode = con.mode := by rw [← hce]
    have e3 : alias = con.alias := by rw [← hce]
    have e4 : C0 = con.C := by rw [← hce]
    rw [e2, e3, e4] at h
    have h := natK_out (natK_out (mapK_out h))
    rw [List.map_id'] at h
    generalize hρc : passOf con.mode (listH s.H) (args.toList.map s.ev) = ρc at h
    generalize hvs : (dedup ((args.toList.map s.ev).flatMap refsA)).filter (fun k => !ρc.contains k) = vs at h
    obtain ⟨hnd, hal, h⟩ := h
    have hnd := nodupB_out hnd
    have hal : ∀ k ∈ ρc, alive (listH s.H) k := fun k hk => isAlive_out (List.all_eq_true.1 hal k hk)
    have hdis : ∀ k ∈ vs, k ∉ ρc := by
      intro k hk
      rw [← hvs] at hk
      have := (List.mem_filter.1 hk).2
      simpa using this
    have hrun : (execOp a.eval o).run P w = .ok (.enter f (args.map a.eval)) w := by
      have hnm : ¬ (fn.name == "runtime.NumGoroutine") = true := by rw [hname]; simp
      have hbd : ¬ fn.body.isNone = true := by rw [hbody]; simp
      simp only [execOp, hop, resolve, hcl, Deferred.ofValue, Sem.run_bind, Sem.run_pure, Result.andThen_ok, invoke, callFunc, run_program, hfn]
      rw [if_neg hnm, if_neg hbd]
      simp
    have hget : ∀ {i}, i < ρc.length → ρc.getD i 0 ∈ ρc := by
      intro i hi
      have : ρc.getD i 0 = ρc[i] := by simp [List.getD, hi]
      rw [this]; exact List.getElem_mem hi
    have hreps : ∀ (fx : Bool) (i : Nat) x v, ((args.toList.map s.ev).map (mapR (argView ρc vs (listH s.H))))[i]? = some x → (args.toList.map a.eval)[i]? = some v →
        RepV (ctxOf (calleeE E s.toF w ρ A ρc vs fx) (listH (calleeH ρc vs (listH s.H))) w (fun i => ρ (ρc.getD i 0)) A) x v := by
      intro fx i x v hx hv
      rw [List.getElem?_map] at hx
      obtain ⟨x0, hx0, rfl⟩ := Option.map_eq_some_iff.1 hx
      rw [List.getElem?_map] at hx0 hv
      obtain ⟨y, hy, rfl⟩ := Option.map_eq_some_iff.1 hx0
      rw [hy] at hv
      simp at hv
      subst hv
      exact (ev_rep hs y).move (callee_keeps (ρc := ρc) (vs := vs)) (argView ρc vs s.toF.H) (fun r v hr hv => callee_ref hs.toSatW hr hv)
    have ea : (args.toList.map a.eval).toArray = args.map a.eval := by apply Array.ext'; simp
    split at h
    · -- in place
      rename_i hm3
      obtain ⟨hcall, hoff⟩ := offP_out h
      have hsat := callee_sat (vs := vs) (fx := true) hs.toSatW hnd hal hdis
      have hc := hkeep (calleeE E s.toF w ρ A ρc vs true) (args.toList.map a.eval) _ _ _ _ hcall (by simp) (by simp [calleeE, calleeH]) hsat (hreps true) (fun _ => hm3)
      unfold Oper.wp
      rw [hrun]
      rw [ea] at hc
      refine Calls.mono hc ?_
      rintro e w' ⟨v, r, hs', nF, ρ', A', rfl, hK, hsw, hr, hl1, hl2, hro⟩
      obtain ⟨rfl, v0, rfl, hi, s', hK', h1, h2, h3⟩ := retInK_out hnd hK
      rw [List.append_nil] at hsw
      have hsat' := Sat.inplace hs hal hsw hi
      have hv : v = v0 := by cases hr; rfl
      subst hv
      have hall : ∀ k, alive (inH ρc (listH s.H) hs') k ↔ alive (listH s.H) k := by
        intro k
        unfold alive inH
        cases hq : ρc.idxOf? k with
        | none => rfl
        | some i =>
          have hg := idxOf_some hq
          obtain ⟨_, ⟨n, h4⟩, _⟩ := hi i (List.getElem?_eq_some_iff.1 hg).1
          exact ⟨fun _ => hal k (List.mem_of_getElem? hg), fun _ e => by have e : listH hs' i = .dead := e; rw [e] at h4; cases h4⟩
      refine ⟨s', hK', Nat.le_trans hle h3, ρ, A', ?_, ?_⟩
      · unfold SatL
        rw [h1, h2]
        exact hsat'.put o.dst (.val _)
      · have hH : listH s'.H = inH ρc (listH s.H) hs' := congrArg FS.H h1
        rw [hH]
        refine ⟨hsw.size, fun b hb hn => ?_, fun k hk => .inl ⟨(hall k).1 hk, rfl⟩, fun k hk hn => ⟨(hall k).2 hk, rfl⟩⟩
        refine hsw.frame b hb fun i hi => ?_
        have hi : i < ρc.length := hi
        exact (hn _ (hal _ (hget hi)) (hoff _ (hget hi))).symm
    obtain ⟨h, hfxl⟩ := fixL_out h
    obtain ⟨hfn', hcall⟩ := aliK_out h
    obtain ⟨hcall, hoff⟩ := offP_out hcall
    have hsat := callee_sat (vs := vs) (fx := con.mode == 3) hs.toSatW hnd hal hdis
    have hc := hkeep (calleeE E s.toF w ρ A ρc vs (con.mode == 3)) (args.toList.map a.eval) _ _ _ _ hcall (by simp) (by simp [calleeE, calleeH]) hsat (hreps _) (fun e => by simpa [calleeE] using e)
    unfold Oper.wp
    rw [hrun]
    rw [ea] at hc
    refine Calls.mono hc ?_
    rintro e w' ⟨v, r, hs', nF, ρ', A', rfl, hK, hsw, hr, hl1, hl2, hro⟩
    have hl1 : ρc.length ≤ hs'.length := hl1
    have hl2 : hs'.length ≤ ρc.length + con.nnew := hl2
    obtain ⟨hsat', hrep⟩ := Sat.ret (n := s.H.length) (cnt := con.nnew) (al := con.alias) (frz := if con.alias then vs else []) hs hnd hal hdis hsw hl1 hle hl2 (fun k hk _ => listH_dead hk) rfl
      (fun ha k hk => by
        have := List.all_eq_true.1 (hfn' ha) k hk
        have h0 := hn0.1
        simp at this; omega) hro (fun e => .inr fun k hk => by have := hfxl (hn0.2 e) k hk; have h0 := hn0.1; omega) hr
    obtain ⟨s', hK', h1, h2, h3⟩ := retK_out hal hK
    refine ⟨s', hK', Nat.le_trans hle h3, retρ ρc ρ s.H.length hs' ρ', A', ?_, ?_⟩
    · unfold SatL
      rw [h1, h2]
      exact hsat'.put o.dst hrep
    · have hH : listH s'.H = retH ρc (if con.alias = true then vs else []) (listH s.H) s.H.length hs' := by
        exact congrArg FS.H h1
      rw [hH]
      refine ⟨hsw.size, fun b hb hn => ?_, fun k hk => ?_, fun k hk hn => ?_⟩
      · refine hsw.frame b hb fun i hi => ?_
        have hi : i < ρc.length := hi
        exact (hn _ (hal _ (hget hi)) (hoff _ (List.mem_append_left _ (hget hi)))).symm
      · rcases ret_src (S := s.toF) (ρ := ρ) (ρ' := ρ') hk with ⟨i, hi, e1, e2, e3, _⟩ | ⟨hi, _, _, e1, _⟩
        · rw [e1]
          rcases (hsw.place i hi).2 with h4 | ⟨h4, h5⟩
          · exact .inr h4
          · have h4 : i < ρc.length := h4
            have h5 : ρ' i = ρ (ρc.getD i 0) := h5
            rw [e3 h4] at h5
            refine .inl ⟨?_, h5⟩
            have := hal _ (hget h4)
            rw [e3 h4] at this
            exact this
        · exact .inl ⟨hi, e1⟩
      · have hkp : k ∈ pk := Classical.byContradiction hn
        have hk1 : k ∉ ρc := fun h => hoff k (List.mem_append_left _ h) hkp
        have hk2 : k ∉ (if con.alias = true then vs else []) := fun h => hoff k (List.mem_append_right _ h) hkp
        have hq : ρc.idxOf? k = none := List.idxOf?_eq_none_iff.2 hk1
        have hlt : k < s.H.length := by
          rcases Nat.lt_or_ge k s.H.length with h4 | h4
          · exact h4
          · exact absurd (listH_dead h4) hk
        have hnn : ¬ (s.H.length ≤ k ∧ k < s.H.length + (hs'.length - ρc.length)) := by omega
        have hfc : ¬ ((if con.alias = true then vs else []).contains k = true) := by simpa using hk2
        refine ⟨?_, ?_⟩
        · unfold alive retH
          rw [hq]
          simp only
          rw [if_neg hnn, if_neg hfc]
          exact fun hd => hk (mapO_dead.1 hd)
        · unfold retρ
          rw [hq]
          simp only
          rw [if_neg hnn]
end Go.Vc
