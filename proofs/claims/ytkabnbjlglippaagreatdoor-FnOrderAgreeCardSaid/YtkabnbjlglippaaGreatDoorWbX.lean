/-
Lists of numbers compared by the laws; committed waves of a part.
Parts of a graph that are closed under parents: what is kept of a graph by marks; such a part is valid.
laws.view: a part of a graph that is closed under parents.
No conditions.
-/
import Derived.Test.YtkabnbjlglippaaGreatDoorWaX
namespace Go.Proofs.YtkabnbjlglippaaGreatDoor
open Go Go.Vc
set_option maxHeartbeats 4000000
set_option maxRecDepth 10000
theorem eq_takeJ {a b : List (Int × Int)} {i : Nat} {x y : Int × Int} (h : a.take i = b.take i) (hx : a[i]? = some x) (hy : b[i]? = some y) (e : x = y) : a.take (i + 1) = b.take (i + 1) := by
  rw [List.take_add_one, List.take_add_one, h, hx, hy, e]
theorem eq_takeW {a b : List Int} {i : Nat} {x y : Int} (h : a.take i = b.take i) (hx : a[i]? = some x) (hy : b[i]? = some y) (e : x = y) : a.take (i + 1) = b.take (i + 1) := by
  rw [List.take_add_one, List.take_add_one, h, hx, hy, e]
def c_laws_eqIntS : Con := ⟨0, 0, false, fun xs hs _ K => match xs with
  | [.ints a, .ints b] => hs = [] ∧ a.length < 2000000 ∧ b.length < 2000000 ∧ K (B (decide (a = b))) [] []
  | _ => False⟩
theorem k_laws_sameInts : Keeps' Tryz.prog 43 c_laws_eqIntS := by
  refine keeps_of_vc mix TyT_ok cok_nil Tryz.func43 rfl rfl rfl ?_
  intro aargs hs Fs K h
  simp only [c_laws_eqIntS] at h
  split at h
  case h_2 => exact h.elim
  rename_i a b
  obtain ⟨rfl, ha, hb, h⟩ := h
  have no : ∀ {c : Bool}, decide (a = b) = c → K (B c) [] [] := fun e => by rw [← e]; exact h
  repeat' (first|((conv=>whnf); (first|refine brK_dec (fun _=>?_) (fun _=>?_)|refine brK_ndec (fun _=>?_) (fun _=>?_)|refine brK_not (fun _=>?_) (fun _=>?_)|refine brK_in (fun _=>?_) (fun _=>?_)|refine And.intro (by first|exact rfl|exact ⟨_,rfl,rfl⟩|exact ⟨rfl,rfl,rfl⟩|exact of_decide_eq_true rfl|exact trivial|assumption|omega|(show (_ ≤ _ ∧ _ ≤ _); omega)|(simp; omega)|exact ⟨by first|omega|(simp; omega),_,rfl,rfl⟩) ?_|refine Quo.l (And.intro (by first|exact rfl|assumption|omega|(simp; omega)) ?_)|refine Quo.r (And.intro (by omega) ?_)|refine Both.mk ?_ ?_|refine Exists.intro _ (And.intro rfl ?_)|refine fun _=>?_))|exact rfl)
  · rename_i h1
    exact no (by
      have : a ≠ b := by rintro rfl; exact h1 rfl
      simp [this])
  rename_i h1
  have hlen : a.length = b.length := by omega
  refine loop_in (ι := Nat) (fun i => mkS 26 [(0, .ints a), (1, .ints b), (4, B false), (5, I i)] [] Fs) (fun i => i ≤ a.length ∧ a.take i = b.take i) (fun i => a.length - i) 0 [] ⟨Nat.zero_le _, by simp⟩ ?_ ?_
  · repeat' (first|((conv=>whnf); (first|refine brK_dec (fun _=>?_) (fun _=>?_)|refine brK_ndec (fun _=>?_) (fun _=>?_)|refine brK_not (fun _=>?_) (fun _=>?_)|refine brK_in (fun _=>?_) (fun _=>?_)|refine And.intro (by first|exact rfl|exact ⟨_,rfl,rfl⟩|exact ⟨rfl,rfl,rfl⟩|exact of_decide_eq_true rfl|exact trivial|assumption|omega|(show (_ ≤ _ ∧ _ ≤ _); omega)|(simp; omega)|exact ⟨by first|omega|(simp; omega),_,rfl,rfl⟩) ?_|refine Quo.l (And.intro (by first|exact rfl|assumption|omega|(simp; omega)) ?_)|refine Quo.r (And.intro (by omega) ?_)|refine Both.mk ?_ ?_|refine Exists.intro _ (And.intro rfl ?_)|refine fun _=>?_))|exact rfl)
  intro i ⟨hi, hall⟩
  repeat' (first|((conv=>whnf); (first|refine draw_plan (id := 6) [] [] (.take 0 (.take 1 (.take 2 (.take 3 (.take 4 (.take 5 (.take 6 (.take 7 (.take 8 .done))))))))) (by kernel_rfl) (by kernel_rfl) ?_|refine brK_dec (fun _=>?_) (fun _=>?_)|refine brK_ndec (fun _=>?_) (fun _=>?_)|refine brK_not (fun _=>?_) (fun _=>?_)|refine brK_in (fun _=>?_) (fun _=>?_)|refine And.intro (by first|exact rfl|exact ⟨_,rfl,rfl⟩|exact ⟨rfl,rfl,rfl⟩|exact of_decide_eq_true rfl|exact trivial|assumption|omega|(show (_ ≤ _ ∧ _ ≤ _); omega)|(simp; omega)|exact ⟨by first|omega|(simp; omega),_,rfl,rfl⟩) ?_|refine Quo.l (And.intro (by first|exact rfl|assumption|omega|(simp; omega)) ?_)|refine Quo.r (And.intro (by omega) ?_)|refine Both.mk ?_ ?_|refine Exists.intro _ (And.intro rfl ?_)|refine fun _=>?_))|exact rfl)
  · rename_i hil x hx y hy e
    refine no ?_
    have : a ≠ b := by
      rintro rfl
      have hx' : a[i]? = some x := hx
      have hy' : a[i]? = some y := hy
      rw [hx'] at hy'
      exact e (Option.some.inj hy')
    simp [this]
  · rename_i hil x hx y hy e
    refine ⟨i + 1, [], ⟨by omega, eq_takeW hall hx hy (by simpa using e)⟩, by omega, ?_⟩
    repeat' (first|((conv=>whnf); (first|refine brK_dec (fun _=>?_) (fun _=>?_)|refine brK_ndec (fun _=>?_) (fun _=>?_)|refine brK_not (fun _=>?_) (fun _=>?_)|refine brK_in (fun _=>?_) (fun _=>?_)|refine And.intro (by first|exact rfl|exact ⟨_,rfl,rfl⟩|exact ⟨rfl,rfl,rfl⟩|exact of_decide_eq_true rfl|exact trivial|assumption|omega|(show (_ ≤ _ ∧ _ ≤ _); omega)|(simp; omega)|exact ⟨by first|omega|(simp; omega),_,rfl,rfl⟩) ?_|refine Quo.l (And.intro (by first|exact rfl|assumption|omega|(simp; omega)) ?_)|refine Quo.r (And.intro (by omega) ?_)|refine Both.mk ?_ ?_|refine Exists.intro _ (And.intro rfl ?_)|refine fun _=>?_))|exact rfl)
  · rename_i hil
    rw [List.take_of_length_le (by omega), List.take_of_length_le (by omega)] at hall
    exact no (by simp [hall])
def c_laws_hasInt : Con := ⟨0, 0, false, fun xs hs _ K => match xs with
  | [.ints l, .val (.int .i64 x)] => hs = [] ∧ l.length < 2000000 ∧ K (B (decide (x ∈ l))) [] []
  | _ => False⟩
theorem k_laws_hasInt : Keeps' Tryz.prog 41 c_laws_hasInt := by
  refine keeps_of_vc mix TyT_ok cok_nil Tryz.func41 rfl rfl rfl ?_
  intro aargs hs Fs K h
  simp only [c_laws_hasInt] at h
  split at h
  case h_2 => exact h.elim
  rename_i l x
  obtain ⟨rfl, hl, h⟩ := h
  have no : ∀ {b : Bool}, decide (x ∈ l) = b → K (B b) [] [] := fun e => by rw [← e]; exact h
  repeat' (first|((conv=>whnf); (first|refine brK_dec (fun _=>?_) (fun _=>?_)|refine brK_ndec (fun _=>?_) (fun _=>?_)|refine brK_not (fun _=>?_) (fun _=>?_)|refine brK_in (fun _=>?_) (fun _=>?_)|refine And.intro (by first|exact rfl|exact ⟨_,rfl,rfl⟩|exact ⟨rfl,rfl,rfl⟩|exact of_decide_eq_true rfl|exact trivial|assumption|omega|(show (_ ≤ _ ∧ _ ≤ _); omega)|(simp; omega)|exact ⟨by first|omega|(simp; omega),_,rfl,rfl⟩) ?_|refine Quo.l (And.intro (by first|exact rfl|assumption|omega|(simp; omega)) ?_)|refine Quo.r (And.intro (by omega) ?_)|refine Both.mk ?_ ?_|refine Exists.intro _ (And.intro rfl ?_)|refine fun _=>?_))|exact rfl)
  refine loop_in (ι := Nat) (fun i => mkS 18 [(0, .ints l), (1, I x), (4, B false), (5, I i)] [] Fs) (fun i => i ≤ l.length ∧ ∀ y ∈ l.take i, y ≠ x) (fun i => l.length - i) 0 [] ⟨Nat.zero_le _, by simp⟩ ?_ ?_
  · repeat' (first|((conv=>whnf); (first|refine brK_dec (fun _=>?_) (fun _=>?_)|refine brK_ndec (fun _=>?_) (fun _=>?_)|refine brK_not (fun _=>?_) (fun _=>?_)|refine brK_in (fun _=>?_) (fun _=>?_)|refine And.intro (by first|exact rfl|exact ⟨_,rfl,rfl⟩|exact ⟨rfl,rfl,rfl⟩|exact of_decide_eq_true rfl|exact trivial|assumption|omega|(show (_ ≤ _ ∧ _ ≤ _); omega)|(simp; omega)|exact ⟨by first|omega|(simp; omega),_,rfl,rfl⟩) ?_|refine Quo.l (And.intro (by first|exact rfl|assumption|omega|(simp; omega)) ?_)|refine Quo.r (And.intro (by omega) ?_)|refine Both.mk ?_ ?_|refine Exists.intro _ (And.intro rfl ?_)|refine fun _=>?_))|exact rfl)
  intro i ⟨hi, hall⟩
  repeat' (first|((conv=>whnf); (first|refine brK_dec (fun _=>?_) (fun _=>?_)|refine brK_ndec (fun _=>?_) (fun _=>?_)|refine brK_not (fun _=>?_) (fun _=>?_)|refine brK_in (fun _=>?_) (fun _=>?_)|refine And.intro (by first|exact rfl|exact ⟨_,rfl,rfl⟩|exact ⟨rfl,rfl,rfl⟩|exact of_decide_eq_true rfl|exact trivial|assumption|omega|(show (_ ≤ _ ∧ _ ≤ _); omega)|(simp; omega)|exact ⟨by first|omega|(simp; omega),_,rfl,rfl⟩) ?_|refine Quo.l (And.intro (by first|exact rfl|assumption|omega|(simp; omega)) ?_)|refine Quo.r (And.intro (by omega) ?_)|refine Both.mk ?_ ?_|refine Exists.intro _ (And.intro rfl ?_)|refine fun _=>?_))|exact rfl)
  · rename_i hil y hy e
    exact no (decide_eq_true (by rw [← e]; exact List.mem_of_getElem? hy))
  · rename_i hil y hy e
    refine ⟨i + 1, [], ⟨by omega, take_all hall hy e⟩, by omega, ?_⟩
    repeat' (first|((conv=>whnf); (first|refine brK_dec (fun _=>?_) (fun _=>?_)|refine brK_ndec (fun _=>?_) (fun _=>?_)|refine brK_not (fun _=>?_) (fun _=>?_)|refine brK_in (fun _=>?_) (fun _=>?_)|refine And.intro (by first|exact rfl|exact ⟨_,rfl,rfl⟩|exact ⟨rfl,rfl,rfl⟩|exact of_decide_eq_true rfl|exact trivial|assumption|omega|(show (_ ≤ _ ∧ _ ≤ _); omega)|(simp; omega)|exact ⟨by first|omega|(simp; omega),_,rfl,rfl⟩) ?_|refine Quo.l (And.intro (by first|exact rfl|assumption|omega|(simp; omega)) ?_)|refine Quo.r (And.intro (by omega) ?_)|refine Both.mk ?_ ?_|refine Exists.intro _ (And.intro rfl ?_)|refine fun _=>?_))|exact rfl)
  · rename_i hil
    rw [List.take_of_length_le (by omega)] at hall
    exact no (decide_eq_false fun hx => hall x hx rfl)
def prefB (a b : List Int) : Bool := decide (a.length ≤ b.length) && decide (a = b.take a.length)
theorem prefB_of {a b : List Int} (h : a <+: b) : prefB a b = true := by
  obtain ⟨t, rfl⟩ := h
  simp [prefB]
def c_laws_prefixInts : Con := ⟨0, 0, false, fun xs hs _ K => match xs with
  | [.ints a, .ints b] => hs = [] ∧ a.length < 2000000 ∧ b.length < 2000000 ∧ K (B (prefB a b)) [] []
  | _ => False⟩
theorem gfit_small {g : List VxD} (h : gfit g) : ∀ v ∈ g, v.p.length < 2000000 := fun v hv => Nat.lt_of_le_of_lt (h v hv) (by decide)
theorem wavI_ok {c : List Int} {g : List VxD} {L : List Int} (h : (gV c g && leadersV c L) = true) : wavI c g L = natI (outV c g L) := if_pos h
theorem wavI_len {c : List Int} {g : List VxD} {L : List Int} : (wavI c g L).length ≤ L.length := by
  unfold wavI
  split
  · have := (wav_len (c := c) (g := g) (L := L) (n := L.length)).1
    simpa [wavL, outV] using this
  · simp
theorem leaders_take {c L : List Int} {k : Nat} (h : leadersV c L = true) : leadersV c (L.take k) = true := by
  unfold leadersV at h ⊢
  rw [Bool.and_eq_true] at h ⊢
  refine ⟨?_, decide_eq_true ?_⟩
  · rw [List.all_eq_true]
    exact fun x hx => List.all_eq_true.1 h.1 x (List.mem_of_mem_take hx)
  · have := of_decide_eq_true h.2
    simp
    omega
theorem wavI_pre {c : List Int} {g : List VxD} {L : List Int} {k : Nat} (hk : k ≤ L.length) (h : (gV c g && leadersV c L) = true) : prefB (wavI c g (L.take k)) (wavI c g L) = true := by
  rw [wavI_ok h, wavI_ok (by rw [and1 h, leaders_take (and2 h)]; rfl)]
  exact prefB_of ((out_leaders hk).map _)
end Go.Proofs.YtkabnbjlglippaaGreatDoor
namespace Go.Proofs.YtkabnbjlglippaaGreatDoor
open Go Go.Vc
set_option maxHeartbeats 1000000
set_option maxRecDepth 10000
theorem sorted_of_pair {g : List VxD} (h : g.Pairwise VxD.lt) : sortedV g := by
  intro i j u v hij hu hv
  obtain ⟨h1, rfl⟩ := List.getElem?_eq_some_iff.1 hu
  obtain ⟨h2, rfl⟩ := List.getElem?_eq_some_iff.1 hv
  exact List.pairwise_iff_getElem.1 h i j h1 h2 hij
/-- The vertices of the first n that are marked. -/
def keepV (g : List VxD) (b : List Bool) (n : Nat) : List VxD := (((g.zip b).take n).filter fun x => x.2).map fun x => x.1
theorem keep_step {g : List VxD} {b : List Bool} {n : Nat} {v : VxD} {x : Bool} (hv : g[n]? = some v) (hx : b[n]? = some x) : keepV g b (n + 1) = keepV g b n ++ if x = true then [v] else [] := by
  have hz : (g.zip b)[n]? = some (v, x) := by
    rw [List.getElem?_zip_eq_some]
    exact ⟨hv, hx⟩
  unfold keepV
  rw [List.take_add_one, hz]
  cases x <;> simp
theorem keep_len {g : List VxD} {b : List Bool} {n : Nat} : (keepV g b n).length ≤ n := by
  unfold keepV
  rw [List.length_map]
  have h1 := List.length_filter_le (fun x : VxD × Bool => x.2) ((g.zip b).take n)
  have h2 := List.length_take_le n (g.zip b)
  omega
/-- Marks that are closed under parents from n on. -/
structure Vwn (g : List VxD) (b : List Bool) (n : Nat) : Prop where
  len : b.length = g.length
  closed : ∀ i, n ≤ i → b[i]? = some true → ∀ j ∈ parI g i, b[j]? = some true
theorem vwn_mark {g : List VxD} {b : List Bool} {m k : Nat} (h : Vwn g b (m + 1)) (hk : k ≤ m) : Vwn g (b.set k true) (m + 1) := by
  refine ⟨by rw [List.length_set]; exact h.len, fun i hi hb j hj => ?_⟩
  rcases set_out hb with hb | rfl
  · exact set_true (h.closed i hi hb j hj)
  · omega
theorem keep_mem {g : List VxD} {b : List Bool} {v : VxD} : v ∈ keepV g b g.length ↔ ∃ i : Nat, g[i]? = some v ∧ b[i]? = some true := by
  unfold keepV
  constructor
  · intro h
    obtain ⟨⟨u, x⟩, hx, rfl⟩ := List.mem_map.1 h
    obtain ⟨h1, h2⟩ := List.mem_filter.1 hx
    obtain ⟨i, hi⟩ := List.mem_iff_getElem?.1 (List.mem_of_mem_take h1)
    rw [List.getElem?_zip_eq_some] at hi
    have h2 : x = true := h2
    subst h2
    exact ⟨i, hi⟩
  · rintro ⟨i, hv, hb⟩
    refine List.mem_map.2 ⟨(v, true), List.mem_filter.2 ⟨?_, rfl⟩, rfl⟩
    have hz : (g.zip b)[i]? = some (v, true) := by
      rw [List.getElem?_zip_eq_some]
      exact ⟨hv, hb⟩
    have hi := (List.getElem?_eq_some_iff.1 hv).1
    have : ((g.zip b).take g.length)[i]? = some (v, true) := by
      rw [List.getElem?_take, if_pos hi]
      exact hz
    exact List.mem_of_getElem? this
theorem keep_sub {g : List VxD} {b : List Bool} (hl : b.length = g.length) : (keepV g b g.length).Sublist g := by
  have h1 : ((((g.zip b).take g.length).filter fun x => x.2).map fun x => x.1).Sublist ((g.zip b).map fun x => x.1) := ((List.filter_sublist).trans (List.take_sublist _ _)).map _
  have h2 : ((g.zip b).map fun x => x.1) = g := List.map_fst_zip (by omega)
  rw [h2] at h1
  exact h1
theorem keep_Sub {c : List Int} {g : List VxD} {b : List Bool} (hv : gV c g = true) (h : Vwn g b 0) : Sub (keepV g b g.length) g := by
  have hs : sortedV (keepV g b g.length) := sorted_of_pair ((pair_of_sorted (gV_sorted hv)).sublist (keep_sub h.len))
  refine ⟨fun v hm => (keep_sub h.len).subset hm, hs, fun v hm a ha => ?_⟩
  obtain ⟨i, hi, hb⟩ := keep_mem.1 hm
  obtain ⟨j, hj⟩ := ((gV_ok hv).par v (List.mem_of_getElem? hi)).2.2 a ha
  obtain ⟨u, hu, e1, e2⟩ := find_out hj
  have hbj := h.closed i (Nat.zero_le _) hb j (par_mem hi ha hj)
  have hum : u ∈ keepV g b g.length := keep_mem.2 ⟨j, hu, hbj⟩
  obtain ⟨k, hk⟩ := List.mem_iff_getElem?.1 hum
  have := find_at hs hk
  rw [e1, e2] at this
  exact ⟨k, this⟩
/-- A part that is closed under parents is valid, too. -/
theorem sub_gV {c : List Int} {g' g : List VxD} (hv : gV c g = true) (h : Sub g' g) : gV c g' = true := by
  unfold gV
  rw [gV_comV hv, Bool.true_and, List.all_eq_true]
  intro i hi
  have hil : i < g'.length := by simpa using hi
  have hvi : g'[i]? = some g'[i] := List.getElem?_eq_getElem hil
  have hmg : g'[i] ∈ g := h.mem _ (List.getElem_mem hil)
  obtain ⟨k, hk⟩ := List.mem_iff_getElem?.1 hmg
  obtain ⟨q1, _, _⟩ := gV_cell hv hk
  have q2 : parB g' g'[i] = true := by
    unfold parB
    rw [List.all_eq_true]
    intro a ha
    obtain ⟨j, hj⟩ := h.clo _ (List.getElem_mem hil) a ha
    rw [hj]
    rfl
  unfold gcell
  rw [hvi]
  dsimp only
  rw [q1, q2]
  have hp : g'[i - 1]? = some (g'[i - 1]'(by omega)) := List.getElem?_eq_getElem (by omega)
  rw [hp]
  dsimp only
  rcases Nat.eq_zero_or_pos i with e | e
  · subst e
    simp
  · have : ltB (g'[i - 1]'(by omega)) g'[i] = true := ltB_iff.2 (h.srt (i - 1) i _ _ (by omega) hp hvi)
    rw [this]
    simp
theorem keep_gV {c : List Int} {g : List VxD} {b : List Bool} (hv : gV c g = true) (h : Vwn g b 0) : gV c (keepV g b g.length) = true := sub_gV hv (keep_Sub hv h)
end Go.Proofs.YtkabnbjlglippaaGreatDoor
namespace Go.Proofs.YtkabnbjlglippaaGreatDoor
open Go Go.Vc
set_option maxHeartbeats 4000000
set_option maxRecDepth 10000
def c_laws_view : Con := ⟨1, 0, true, fun xs hs _ K => match xs with
  | [.ints c, .sl 4 rows, .val (.int .i64 w)] => hs = [] ∧ ∃ g : List VxD, rows = g.map VxD.row ∧ gV c g = true ∧ c.length < 2000000 ∧ g.length ≤ 1000 ∧ (∀ v ∈ g, v.p.length < 2000000) ∧ 0 ≤ w ∧ w ≤ 100000000 ∧
      ∀ g', Sub g' g → gV c g' = true → g'.length ≤ g.length → (∀ v ∈ g', v.p.length < 2000000) → K (.own 0) [.arr 4 (g'.map VxD.row)] []
  | _ => False⟩
/-- While the parents of vertex m are marked: those of the first k are. -/
structure Vwk (g : List VxD) (b : List Bool) (m k : Nat) (v : VxD) : Prop where
  vwn : Vwn g b (m + 1)
  mark : ∀ (j : Nat) x i, j < k → v.p[j]? = some x → findV g (v.r - 1) x = some i → b[i]? = some true
theorem vwk_end {g : List VxD} {b : List Bool} {m k : Nat} {v : VxD} (hv : g[m]? = some v) (h : Vwk g b m k v) (hk : v.p.length ≤ k ∨ b[m]? = some false) : Vwn g b m := by
  refine ⟨h.vwn.len, fun i hi hb j hj => ?_⟩
  rcases Nat.eq_or_lt_of_le hi with rfl | hi
  · rcases hk with hk | hk
    · unfold parI at hj
      rw [hv] at hj
      obtain ⟨x, hx, hf⟩ := List.mem_filterMap.1 hj
      obtain ⟨t, ht⟩ := List.mem_iff_getElem?.1 hx
      exact h.mark t x j (by have := (List.getElem?_eq_some_iff.1 ht).1; omega) ht hf
    · rw [hb] at hk
      cases hk
  · exact h.vwn.closed i hi hb j hj
theorem vwk_next {g : List VxD} (hs : sortedV g) {b : List Bool} {m k j : Nat} {v : VxD} {x : Int} (hv : g[m]? = some v) (h : Vwk g b m k v) (hx : v.p[k]? = some x) (hf : findV g (v.r - 1) x = some j) : Vwk g (b.set j true) m (k + 1) v := by
  have hj : j < m := par_lt hs (par_mem hv (List.mem_of_getElem? hx) hf)
  refine ⟨vwn_mark h.vwn (by omega), fun t y i ht hy hi => ?_⟩
  rcases Nat.lt_or_ge t k with h1 | h1
  · exact set_true (h.mark t y i h1 hy hi)
  · obtain rfl : t = k := by omega
    rw [hx] at hy
    cases hy
    rw [hf] at hi
    cases hi
    obtain ⟨u, hu, _⟩ := find_out hf
    exact set_is (by rw [h.vwn.len]; exact (List.getElem?_eq_some_iff.1 hu).1) rfl
theorem vwk_start {g : List VxD} {b : List Bool} {m : Nat} {v : VxD} {y : Bool} (h : Vwn g b (m + 1)) (hm : m < g.length) (hy : b[m]? = some true → y = true) : Vwk g (b.set m y) m 0 v := by
  refine ⟨⟨by rw [List.length_set]; exact h.len, fun i hi hb j hj => ?_⟩, fun j x i hj => absurd hj (by omega)⟩
  rw [List.getElem?_set_ne (by omega)] at hb
  have hbj := h.closed i hi hb j hj
  by_cases e : j = m
  · subst e
    rw [List.getElem?_set_self (by rw [h.len]; exact hm), hy hbj]
  · rw [List.getElem?_set_ne (fun q => e q.symm)]
    exact hbj
namespace Vw
/-- GraphFind where there is such a vertex. -/
def c_find : Con := ⟨0, 0, false, fun xs hs _ K => match xs with
  | [.ints c, .sl 4 rows, .val (.int .i64 r), .val (.int .i64 a)] => hs = [] ∧ ∃ (g : List VxD) (i : Nat), rows = g.map VxD.row ∧ gV c g = true ∧ findV g r a = some i ∧ c.length < 2000000 ∧ g.length < 2000000 ∧ (∀ v ∈ g, v.p.length < 2000000) ∧ K (I i) [] []
  | _ => False⟩
theorem k_impl_GraphFind : Keeps' Tryz.prog 37 c_find := by
  intro E args aargs hs Fs K hc hl hn0 hsat hrep hfx
  refine Go.Proofs.YtkabnbjlglippaaGreatDoor.k_impl_GraphFind E args aargs hs Fs K ?_ hl hn0 hsat hrep hfx
  simp only [c_find] at hc
  split at hc
  case h_2 => exact hc.elim
  obtain ⟨rfl, g, i, rfl, h1, h2, h3, h4, h5, h6⟩ := hc
  refine ⟨rfl, g, rfl, h3, h4, h5, ?_⟩
  rw [if_pos h1, fndA, h2]
  exact h6
theorem k_laws_view : Keeps' Tryz.prog 46 c_laws_view := by
  refine keeps_of_vc mix TyT_ok (cok_cons k_impl_GraphFind Tryz.func37 rfl rfl cok_nil) Tryz.func46 rfl rfl rfl ?_
  intro aargs hs Fs K h
  simp only [c_laws_view] at h
  split at h
  case h_2 => exact h.elim
  rename_i c rows w
  obtain ⟨rfl, g, rfl, hv, hc, hg, hp, w0, w1, h⟩ := h
  have hlen : (g.map VxD.row).length = g.length := by simp
  repeat' (first|((conv=>whnf); (first|refine brK_dec (fun _=>?_) (fun _=>?_)|refine brK_ndec (fun _=>?_) (fun _=>?_)|refine brK_not (fun _=>?_) (fun _=>?_)|refine brK_in (fun _=>?_) (fun _=>?_)|refine And.intro (by first|exact rfl|exact (by simp; omega)|exact ⟨_,rfl,rfl⟩|exact ⟨rfl,rfl,rfl⟩|exact of_decide_eq_true rfl|exact trivial|assumption|omega|(show (_ ≤ _ ∧ _ ≤ _); omega)|(simp; omega)|exact ⟨by first|omega|(simp; omega),_,rfl,rfl⟩) ?_|refine Quo.l (And.intro (by first|exact rfl|exact (by simp; omega)|assumption|omega|(simp; omega)) ?_)|refine Quo.r (And.intro (by omega) ?_)|refine Both.mk ?_ ?_|refine Exists.intro _ (And.intro rfl ?_)|refine rep_in ?_|refine opt_use (by assumption) ?_|refine vrow_use (by assumption) ?_|refine vrow_in (fun _ _=>?_)|refine brow_use (by assumption) ?_|refine brow_in (fun _ _=>?_)|refine fun _=>?_))|exact rfl)
  refine loop_in (ι := Nat × Int × List Bool) (fun q => mkS 92 [(0, .ints c), (1, .sl 4 (g.map VxD.row)), (2, I q.2.1), (7, .own 0), (8, I ((q.1 : Int) - 1))] [.arr 1 (boolRows q.2.2)] Fs)
    (fun q => q.1 ≤ g.length ∧ 0 ≤ q.2.1 ∧ q.2.1 ≤ 100000000 ∧ Vwn g q.2.2 q.1) (fun q => q.1) (g.length, w, List.replicate g.length false) [0] ⟨Nat.le_refl _, w0, w1, ?_⟩ ?_ ?_
  · refine ⟨by simp, fun i hi hb => ?_⟩
    have := (List.getElem?_eq_some_iff.1 hb).1
    simp at this
    omega
  · repeat' (first|((conv=>whnf); (first|refine brK_dec (fun _=>?_) (fun _=>?_)|refine brK_ndec (fun _=>?_) (fun _=>?_)|refine brK_not (fun _=>?_) (fun _=>?_)|refine brK_in (fun _=>?_) (fun _=>?_)|refine And.intro (by first|exact rfl|exact (by simp [boolRows])|exact ⟨_,rfl,rfl⟩|exact ⟨rfl,rfl,rfl⟩|exact of_decide_eq_true rfl|exact trivial|assumption|omega|(show (_ ≤ _ ∧ _ ≤ _); omega)|(simp; omega)|exact ⟨by first|omega|(simp; omega),_,rfl,rfl⟩) ?_|refine Quo.l (And.intro (by first|exact rfl|exact (by simp [boolRows])|assumption|omega|(simp; omega)) ?_)|refine Quo.r (And.intro (by omega) ?_)|refine Both.mk ?_ ?_|refine Exists.intro _ (And.intro rfl ?_)|refine rep_in ?_|refine opt_use (by assumption) ?_|refine vrow_use (by assumption) ?_|refine vrow_in (fun _ _=>?_)|refine brow_use (by assumption) ?_|refine brow_in (fun _ _=>?_)|refine fun _=>?_))|exact rfl)
  rintro ⟨n, bits, b⟩ ⟨hn, b0, b1, hw⟩
  dsimp only at hn b0 b1 hw ⊢
  have hbl := hw.len
  have hlb : (boolRows b).length = g.length := by simp [hbl]
  rcases Nat.eq_zero_or_pos n with hn0 | hn0
  · subst hn0
    repeat' (first|((conv=>whnf); (first|refine brK_dec (fun _=>?_) (fun _=>?_)|refine brK_ndec (fun _=>?_) (fun _=>?_)|refine brK_not (fun _=>?_) (fun _=>?_)|refine brK_in (fun _=>?_) (fun _=>?_)|refine And.intro (by first|exact rfl|exact ⟨_,rfl,rfl⟩|exact ⟨rfl,rfl,rfl⟩|exact of_decide_eq_true rfl|exact trivial|assumption|omega|(show (_ ≤ _ ∧ _ ≤ _); omega)|(simp; omega)|exact ⟨by first|omega|(simp; omega),_,rfl,rfl⟩) ?_|refine Quo.l (And.intro (by first|exact rfl|assumption|omega|(simp; omega)) ?_)|refine Quo.r (And.intro (by omega) ?_)|refine Both.mk ?_ ?_|refine Exists.intro _ (And.intro rfl ?_)|refine rep_in ?_|refine opt_use (by assumption) ?_|refine vrow_use (by assumption) ?_|refine vrow_in (fun _ _=>?_)|refine brow_use (by assumption) ?_|refine brow_in (fun _ _=>?_)|refine fun _=>?_))|exact rfl)
    refine loop_in (ι := Nat) (fun i => mkS 92 [(0, .ints c), (1, .sl 4 (g.map VxD.row)), (7, .own 0), (10, .own 1), (11, I i)] [.arr 1 (boolRows b), .arr 4 ((keepV g b i).map VxD.row)] Fs) (fun i => i ≤ g.length) (fun i => g.length - i) 0 [0, 1] (Nat.zero_le _) ?_ ?_
    · repeat' (first|((conv=>whnf); (first|refine brK_dec (fun _=>?_) (fun _=>?_)|refine brK_ndec (fun _=>?_) (fun _=>?_)|refine brK_not (fun _=>?_) (fun _=>?_)|refine brK_in (fun _=>?_) (fun _=>?_)|refine And.intro (by first|exact rfl|exact (by simp [keepV])|exact ⟨_,rfl,rfl⟩|exact ⟨rfl,rfl,rfl⟩|exact of_decide_eq_true rfl|exact trivial|assumption|omega|(show (_ ≤ _ ∧ _ ≤ _); omega)|(simp; omega)|exact ⟨by first|omega|(simp; omega),_,rfl,rfl⟩) ?_|refine Quo.l (And.intro (by first|exact rfl|exact (by simp [keepV])|assumption|omega|(simp; omega)) ?_)|refine Quo.r (And.intro (by omega) ?_)|refine Both.mk ?_ ?_|refine Exists.intro _ (And.intro rfl ?_)|refine rep_in ?_|refine opt_use (by assumption) ?_|refine vrow_use (by assumption) ?_|refine vrow_in (fun _ _=>?_)|refine brow_use (by assumption) ?_|refine brow_in (fun _ _=>?_)|refine fun _=>?_))|exact rfl)
    intro i hi
    dsimp only at hi ⊢
    have hkl := keep_len (g := g) (b := b) (n := i)
    have hkm : ((keepV g b i).map VxD.row).length = (keepV g b i).length := by simp
    repeat' (first|((conv=>whnf); (first|refine brK_dec (fun _=>?_) (fun _=>?_)|refine brK_ndec (fun _=>?_) (fun _=>?_)|refine brK_not (fun _=>?_) (fun _=>?_)|refine brK_in (fun _=>?_) (fun _=>?_)|refine And.intro (by first|exact rfl|exact (by first|exact Nat.le_trans (Nat.mul_le_mul_right _ (show _ ≤ 2000 from by simp [chunks]; omega)) (by decide)|(simp [chunks]; omega))|exact ⟨_,rfl,rfl⟩|exact ⟨rfl,rfl,rfl⟩|exact of_decide_eq_true rfl|exact trivial|assumption|omega|(show (_ ≤ _ ∧ _ ≤ _); omega)|(simp; omega)|exact ⟨by first|omega|(simp; omega),_,rfl,rfl⟩) ?_|refine Quo.l (And.intro (by first|exact rfl|exact (by first|exact Nat.le_trans (Nat.mul_le_mul_right _ (show _ ≤ 2000 from by simp [chunks]; omega)) (by decide)|(simp [chunks]; omega))|assumption|omega|(simp; omega)) ?_)|refine Quo.r (And.intro (by omega) ?_)|refine Both.mk ?_ ?_|refine Exists.intro _ (And.intro rfl ?_)|refine rep_in ?_|refine opt_use (by assumption) ?_|refine vrow_use (by assumption) ?_|refine vrow_in (fun _ _=>?_)|refine brow_use (by assumption) ?_|refine brow_in (fun _ _=>?_)|refine fun _=>?_))|exact rfl)
    · rename_i f0 x hx f1 v hv1
      have hx : b[i]? = some x := hx
      have hv1 : g[i]? = some v := hv1
      have e := keep_step hv1 hx
      rw [if_pos f1] at e
      refine ⟨i + 1, [0, 1], by omega, by omega, ?_⟩
      repeat' (first|((conv=>whnf); (first|refine brK_dec (fun _=>?_) (fun _=>?_)|refine brK_ndec (fun _=>?_) (fun _=>?_)|refine brK_not (fun _=>?_) (fun _=>?_)|refine brK_in (fun _=>?_) (fun _=>?_)|refine And.intro (by first|exact rfl|exact (by rw [e,List.take_length,List.map_append]; rfl)|exact ⟨_,rfl,rfl⟩|exact ⟨rfl,rfl,rfl⟩|exact of_decide_eq_true rfl|exact trivial|assumption|omega|(show (_ ≤ _ ∧ _ ≤ _); omega)|(simp; omega)|exact ⟨by first|omega|(simp; omega),_,rfl,rfl⟩) ?_|refine Quo.l (And.intro (by first|exact rfl|exact (by rw [e,List.take_length,List.map_append]; rfl)|assumption|omega|(simp; omega)) ?_)|refine Quo.r (And.intro (by omega) ?_)|refine Both.mk ?_ ?_|refine Exists.intro _ (And.intro rfl ?_)|refine rep_in ?_|refine opt_use (by assumption) ?_|refine vrow_use (by assumption) ?_|refine vrow_in (fun _ _=>?_)|refine brow_use (by assumption) ?_|refine brow_in (fun _ _=>?_)|refine fun _=>?_))|exact rfl)
    · rename_i f0 x hx f1
      have hx : b[i]? = some x := hx
      have hv1 : g[i]? = some (g[i]'(by omega)) := List.getElem?_eq_getElem (by omega)
      have e := keep_step hv1 hx
      rw [if_neg (by rw [f1]; simp), List.append_nil] at e
      refine ⟨i + 1, [0, 1], by omega, by omega, ?_⟩
      repeat' (first|((conv=>whnf); (first|refine brK_dec (fun _=>?_) (fun _=>?_)|refine brK_ndec (fun _=>?_) (fun _=>?_)|refine brK_not (fun _=>?_) (fun _=>?_)|refine brK_in (fun _=>?_) (fun _=>?_)|refine And.intro (by first|exact rfl|exact (by rw [e])|exact ⟨_,rfl,rfl⟩|exact ⟨rfl,rfl,rfl⟩|exact of_decide_eq_true rfl|exact trivial|assumption|omega|(show (_ ≤ _ ∧ _ ≤ _); omega)|(simp; omega)|exact ⟨by first|omega|(simp; omega),_,rfl,rfl⟩) ?_|refine Quo.l (And.intro (by first|exact rfl|exact (by rw [e])|assumption|omega|(simp; omega)) ?_)|refine Quo.r (And.intro (by omega) ?_)|refine Both.mk ?_ ?_|refine Exists.intro _ (And.intro rfl ?_)|refine rep_in ?_|refine opt_use (by assumption) ?_|refine vrow_use (by assumption) ?_|refine vrow_in (fun _ _=>?_)|refine brow_use (by assumption) ?_|refine brow_in (fun _ _=>?_)|refine fun _=>?_))|exact rfl)
    · have e : i = g.length := by omega
      subst e
      exact h _ (keep_Sub hv hw) (keep_gV hv hw) (by omega) (fun v hm => hp v ((keep_Sub hv hw).mem v hm))
  obtain ⟨m, rfl⟩ : ∃ m, n = m + 1 := ⟨n - 1, by omega⟩
  obtain ⟨v, hv1⟩ : ∃ v, g[m]? = some v := ⟨g[m]'(by omega), List.getElem?_eq_getElem (by omega)⟩
  have e1 : (((m + 1 : Nat) : Int) - 1).toNat = m := by omega
  have hv2 : g[(((m + 1 : Nat) : Int) - 1).toNat]? = some v := by rw [e1]; exact hv1
  have hpl := hp v (List.mem_of_getElem? hv1)
  have hpar := (gV_ok hv).par
  repeat' (first|((conv=>whnf); (first|refine brK_dec (fun _=>?_) (fun _=>?_)|refine brK_ndec (fun _=>?_) (fun _=>?_)|refine brK_not (fun _=>?_) (fun _=>?_)|refine brK_in (fun _=>?_) (fun _=>?_)|refine And.intro (by first|exact rfl|exact ⟨_,rfl,rfl⟩|exact ⟨rfl,rfl,rfl⟩|exact of_decide_eq_true rfl|exact trivial|assumption|omega|(show (_ ≤ _ ∧ _ ≤ _); omega)|(simp; omega)|exact ⟨by first|omega|(simp; omega),_,rfl,rfl⟩) ?_|refine Quo.l (And.intro (by first|exact rfl|assumption|omega|(simp; omega)) ?_)|refine Quo.r (And.intro (by omega) ?_)|refine Both.mk ?_ ?_|refine Exists.intro _ (And.intro rfl ?_)|refine rep_in ?_|refine opt_use (by assumption) ?_|refine vrow_use (by assumption) ?_|refine vrow_in (fun _ _=>?_)|refine brow_use (by assumption) ?_|refine brow_in (fun _ _=>?_)|refine fun _=>?_))|exact rfl)
  · rename_i e0 x hx e2
    rw [e1] at hx
    refine loop_in (ι := Nat × List Bool) (fun q => mkS 92 [(0, .ints c), (1, .sl 4 (g.map VxD.row)), (2, I ((bits * 37 + 11) % 1009)), (7, .own 0), (8, I (((m + 1 : Nat) : Int) - 1)), (9, I q.1)] [.arr 1 (boolRows q.2)] Fs)
      (fun q => q.1 ≤ v.p.length ∧ Vwk g q.2 m q.1 v) (fun q => v.p.length - q.1) (0, b.set m true) [0] ⟨Nat.zero_le _, vwk_start hw (by omega) (fun hq => by first | rfl | (rw [hx, e2] at hq; cases hq))⟩ ?_ ?_
    · repeat' (first|((conv=>whnf); (first|refine brK_dec (fun _=>?_) (fun _=>?_)|refine brK_ndec (fun _=>?_) (fun _=>?_)|refine brK_not (fun _=>?_) (fun _=>?_)|refine brK_in (fun _=>?_) (fun _=>?_)|refine And.intro (by first|exact rfl|exact (by rw [← brow_set,e1]; rfl)|exact ⟨_,rfl,rfl⟩|exact ⟨rfl,rfl,rfl⟩|exact of_decide_eq_true rfl|exact trivial|assumption|omega|(show (_ ≤ _ ∧ _ ≤ _); omega)|(simp; omega)|exact ⟨by first|omega|(simp; omega),_,rfl,rfl⟩) ?_|refine Quo.l (And.intro (by first|exact rfl|exact (by rw [← brow_set,e1]; rfl)|assumption|omega|(simp; omega)) ?_)|refine Quo.r (And.intro (by omega) ?_)|refine Both.mk ?_ ?_|refine Exists.intro _ (And.intro rfl ?_)|refine rep_in ?_|refine opt_use (by assumption) ?_|refine vrow_use (by assumption) ?_|refine vrow_in (fun _ _=>?_)|refine brow_use (by assumption) ?_|refine brow_in (fun _ _=>?_)|refine fun _=>?_))|exact rfl)
    rintro ⟨k, b⟩ ⟨hk, hwk⟩
    dsimp only at hk hwk ⊢
    have hbl := hwk.vwn.len
    have hlb : (boolRows b).length = g.length := by simp [hbl]
    have hm : 0 ≤ (bits * 37 + 11) % 1009 ∧ (bits * 37 + 11) % 1009 ≤ 100000000 := by omega
    rcases Nat.lt_or_ge k v.p.length with hkl | hkl
    · have hx2 : v.p[k]? = some v.p[k] := List.getElem?_eq_getElem hkl
      obtain ⟨j, hj⟩ := (hpar v (List.mem_of_getElem? hv1)).2.2 _ (List.getElem_mem hkl)
      obtain ⟨u, hu, _⟩ := find_out hj
      have hjl : j < g.length := (List.getElem?_eq_some_iff.1 hu).1
      have hrr := vx_small (gV_cell hv hv1).1
      repeat' (first|((conv=>whnf); (first|refine draw_plan (id := 10) [] [19] (.take 0 (.take 1 (.take 2 (.take 3 (.take 4 (.take 5 (.take 6 (.take 7 (.take 8 (.take 9 (.take 10 (.take 11 (.take 12 (.take 13 (.take 14 (.take 15 (.take 16 (.run 17 (.take 18 (.run 19 .done)))))))))))))))))))) (by kernel_rfl) (by kernel_rfl) ?_|refine Exists.intro g (Exists.intro j (And.intro rfl (And.intro hv (And.intro hj (And.intro hc (And.intro (by omega) (And.intro hp ?_)))))))|refine brK_dec (fun _=>?_) (fun _=>?_)|refine brK_ndec (fun _=>?_) (fun _=>?_)|refine brK_not (fun _=>?_) (fun _=>?_)|refine brK_in (fun _=>?_) (fun _=>?_)|refine And.intro (by first|exact rfl|exact ⟨_,rfl,rfl⟩|exact ⟨rfl,rfl,rfl⟩|exact of_decide_eq_true rfl|exact trivial|assumption|omega|(show (_ ≤ _ ∧ _ ≤ _); omega)|(simp; omega)|exact ⟨by first|omega|(simp; omega),_,rfl,rfl⟩) ?_|refine Quo.l (And.intro (by first|exact rfl|assumption|omega|(simp; omega)) ?_)|refine Quo.r (And.intro (by omega) ?_)|refine Both.mk ?_ ?_|refine Exists.intro _ (And.intro rfl ?_)|refine rep_in ?_|refine opt_use (by assumption) ?_|refine vrow_use (by assumption) ?_|refine vrow_in (fun _ _=>?_)|refine brow_use (by assumption) ?_|refine brow_in (fun _ _=>?_)|refine fun _=>?_))|exact rfl)
      · refine ⟨(k + 1, b.set j true), [0], ⟨by dsimp only; omega, vwk_next (gV_sorted hv) hv1 hwk hx2 hj⟩, by dsimp only; omega, ?_⟩
        repeat' (first|((conv=>whnf); (first|refine Exists.intro g (Exists.intro j (And.intro rfl (And.intro hv (And.intro hj (And.intro hc (And.intro (by omega) (And.intro hp ?_)))))))|refine brK_dec (fun _=>?_) (fun _=>?_)|refine brK_ndec (fun _=>?_) (fun _=>?_)|refine brK_not (fun _=>?_) (fun _=>?_)|refine brK_in (fun _=>?_) (fun _=>?_)|refine And.intro (by first|exact rfl|exact (by rw [← brow_set]; rfl)|exact ⟨_,rfl,rfl⟩|exact ⟨rfl,rfl,rfl⟩|exact of_decide_eq_true rfl|exact trivial|assumption|omega|(show (_ ≤ _ ∧ _ ≤ _); omega)|(simp; omega)|exact ⟨by first|omega|(simp; omega),_,rfl,rfl⟩) ?_|refine Quo.l (And.intro (by first|exact rfl|exact (by rw [← brow_set]; rfl)|assumption|omega|(simp; omega)) ?_)|refine Quo.r (And.intro (by omega) ?_)|refine Both.mk ?_ ?_|refine Exists.intro _ (And.intro rfl ?_)|refine rep_in ?_|refine opt_use (by assumption) ?_|refine vrow_use (by assumption) ?_|refine vrow_in (fun _ _=>?_)|refine brow_use (by assumption) ?_|refine brow_in (fun _ _=>?_)|refine fun _=>?_))|exact rfl)
      · rename_i f0 z hz f1
        rw [e1, f1] at hz
        refine ⟨(m, (bits * 37 + 11) % 1009, b), [0], ⟨by dsimp only; omega, hm.1, hm.2, vwk_end hv1 hwk (.inr hz)⟩, by dsimp only; omega, ?_⟩
        repeat' (first|((conv=>whnf); (first|refine Exists.intro g (Exists.intro j (And.intro rfl (And.intro hv (And.intro hj (And.intro hc (And.intro (by omega) (And.intro hp ?_)))))))|refine brK_dec (fun _=>?_) (fun _=>?_)|refine brK_ndec (fun _=>?_) (fun _=>?_)|refine brK_not (fun _=>?_) (fun _=>?_)|refine brK_in (fun _=>?_) (fun _=>?_)|refine And.intro (by first|exact rfl|exact (by simp)|exact ⟨_,rfl,rfl⟩|exact ⟨rfl,rfl,rfl⟩|exact of_decide_eq_true rfl|exact trivial|assumption|omega|(show (_ ≤ _ ∧ _ ≤ _); omega)|(simp; omega)|exact ⟨by first|omega|(simp; omega),_,rfl,rfl⟩) ?_|refine Quo.l (And.intro (by first|exact rfl|exact (by simp)|assumption|omega|(simp; omega)) ?_)|refine Quo.r (And.intro (by omega) ?_)|refine Both.mk ?_ ?_|refine Exists.intro _ (And.intro rfl ?_)|refine rep_in ?_|refine opt_use (by assumption) ?_|refine vrow_use (by assumption) ?_|refine vrow_in (fun _ _=>?_)|refine brow_use (by assumption) ?_|refine brow_in (fun _ _=>?_)|refine fun _=>?_))|exact rfl)
      · omega
    · repeat' (first|((conv=>whnf); (first|refine draw_plan (id := 10) [] [19] (.take 0 (.take 1 (.take 2 (.take 3 (.take 4 (.take 5 (.take 6 (.take 7 (.take 8 (.take 9 (.take 10 (.take 11 (.take 12 (.take 13 (.take 14 (.take 15 (.take 16 (.run 17 (.take 18 (.run 19 .done)))))))))))))))))))) (by kernel_rfl) (by kernel_rfl) ?_|refine brK_dec (fun _=>?_) (fun _=>?_)|refine brK_ndec (fun _=>?_) (fun _=>?_)|refine brK_not (fun _=>?_) (fun _=>?_)|refine brK_in (fun _=>?_) (fun _=>?_)|refine And.intro (by first|exact rfl|exact ⟨_,rfl,rfl⟩|exact ⟨rfl,rfl,rfl⟩|exact of_decide_eq_true rfl|exact trivial|assumption|omega|(show (_ ≤ _ ∧ _ ≤ _); omega)|(simp; omega)|exact ⟨by first|omega|(simp; omega),_,rfl,rfl⟩) ?_|refine Quo.l (And.intro (by first|exact rfl|assumption|omega|(simp; omega)) ?_)|refine Quo.r (And.intro (by omega) ?_)|refine Both.mk ?_ ?_|refine Exists.intro _ (And.intro rfl ?_)|refine rep_in ?_|refine opt_use (by assumption) ?_|refine vrow_use (by assumption) ?_|refine vrow_in (fun _ _=>?_)|refine brow_use (by assumption) ?_|refine brow_in (fun _ _=>?_)|refine fun _=>?_))|exact rfl)
      · omega
      · omega
      · refine ⟨(m, (bits * 37 + 11) % 1009, b), [0], ⟨by dsimp only; omega, hm.1, hm.2, vwk_end hv1 hwk (.inl hkl)⟩, by dsimp only; omega, ?_⟩
        repeat' (first|((conv=>whnf); (first|refine brK_dec (fun _=>?_) (fun _=>?_)|refine brK_ndec (fun _=>?_) (fun _=>?_)|refine brK_not (fun _=>?_) (fun _=>?_)|refine brK_in (fun _=>?_) (fun _=>?_)|refine And.intro (by first|exact rfl|exact (by simp)|exact ⟨_,rfl,rfl⟩|exact ⟨rfl,rfl,rfl⟩|exact of_decide_eq_true rfl|exact trivial|assumption|omega|(show (_ ≤ _ ∧ _ ≤ _); omega)|(simp; omega)|exact ⟨by first|omega|(simp; omega),_,rfl,rfl⟩) ?_|refine Quo.l (And.intro (by first|exact rfl|exact (by simp)|assumption|omega|(simp; omega)) ?_)|refine Quo.r (And.intro (by omega) ?_)|refine Both.mk ?_ ?_|refine Exists.intro _ (And.intro rfl ?_)|refine rep_in ?_|refine opt_use (by assumption) ?_|refine vrow_use (by assumption) ?_|refine vrow_in (fun _ _=>?_)|refine brow_use (by assumption) ?_|refine brow_in (fun _ _=>?_)|refine fun _=>?_))|exact rfl)
  · rename_i e0 x hx e2
    rw [e1] at hx
    refine loop_in (ι := Nat × List Bool) (fun q => mkS 92 [(0, .ints c), (1, .sl 4 (g.map VxD.row)), (2, I ((bits * 37 + 11) % 1009)), (7, .own 0), (8, I (((m + 1 : Nat) : Int) - 1)), (9, I q.1)] [.arr 1 (boolRows q.2)] Fs)
      (fun q => q.1 ≤ v.p.length ∧ Vwk g q.2 m q.1 v) (fun q => v.p.length - q.1) (0, b.set m (decide (0 < (bits * 37 + 11) % 1009 % 3))) [0] ⟨Nat.zero_le _, vwk_start hw (by omega) (fun hq => by first | rfl | (rw [hx, e2] at hq; cases hq))⟩ ?_ ?_
    · repeat' (first|((conv=>whnf); (first|refine brK_dec (fun _=>?_) (fun _=>?_)|refine brK_ndec (fun _=>?_) (fun _=>?_)|refine brK_not (fun _=>?_) (fun _=>?_)|refine brK_in (fun _=>?_) (fun _=>?_)|refine And.intro (by first|exact rfl|exact (by rw [← brow_set,e1]; rfl)|exact ⟨_,rfl,rfl⟩|exact ⟨rfl,rfl,rfl⟩|exact of_decide_eq_true rfl|exact trivial|assumption|omega|(show (_ ≤ _ ∧ _ ≤ _); omega)|(simp; omega)|exact ⟨by first|omega|(simp; omega),_,rfl,rfl⟩) ?_|refine Quo.l (And.intro (by first|exact rfl|exact (by rw [← brow_set,e1]; rfl)|assumption|omega|(simp; omega)) ?_)|refine Quo.r (And.intro (by omega) ?_)|refine Both.mk ?_ ?_|refine Exists.intro _ (And.intro rfl ?_)|refine rep_in ?_|refine opt_use (by assumption) ?_|refine vrow_use (by assumption) ?_|refine vrow_in (fun _ _=>?_)|refine brow_use (by assumption) ?_|refine brow_in (fun _ _=>?_)|refine fun _=>?_))|exact rfl)
    rintro ⟨k, b⟩ ⟨hk, hwk⟩
    dsimp only at hk hwk ⊢
    have hbl := hwk.vwn.len
    have hlb : (boolRows b).length = g.length := by simp [hbl]
    have hm : 0 ≤ (bits * 37 + 11) % 1009 ∧ (bits * 37 + 11) % 1009 ≤ 100000000 := by omega
    rcases Nat.lt_or_ge k v.p.length with hkl | hkl
    · have hx2 : v.p[k]? = some v.p[k] := List.getElem?_eq_getElem hkl
      obtain ⟨j, hj⟩ := (hpar v (List.mem_of_getElem? hv1)).2.2 _ (List.getElem_mem hkl)
      obtain ⟨u, hu, _⟩ := find_out hj
      have hjl : j < g.length := (List.getElem?_eq_some_iff.1 hu).1
      have hrr := vx_small (gV_cell hv hv1).1
      repeat' (first|((conv=>whnf); (first|refine draw_plan (id := 10) [] [19] (.take 0 (.take 1 (.take 2 (.take 3 (.take 4 (.take 5 (.take 6 (.take 7 (.take 8 (.take 9 (.take 10 (.take 11 (.take 12 (.take 13 (.take 14 (.take 15 (.take 16 (.run 17 (.take 18 (.run 19 .done)))))))))))))))))))) (by kernel_rfl) (by kernel_rfl) ?_|refine Exists.intro g (Exists.intro j (And.intro rfl (And.intro hv (And.intro hj (And.intro hc (And.intro (by omega) (And.intro hp ?_)))))))|refine brK_dec (fun _=>?_) (fun _=>?_)|refine brK_ndec (fun _=>?_) (fun _=>?_)|refine brK_not (fun _=>?_) (fun _=>?_)|refine brK_in (fun _=>?_) (fun _=>?_)|refine And.intro (by first|exact rfl|exact ⟨_,rfl,rfl⟩|exact ⟨rfl,rfl,rfl⟩|exact of_decide_eq_true rfl|exact trivial|assumption|omega|(show (_ ≤ _ ∧ _ ≤ _); omega)|(simp; omega)|exact ⟨by first|omega|(simp; omega),_,rfl,rfl⟩) ?_|refine Quo.l (And.intro (by first|exact rfl|assumption|omega|(simp; omega)) ?_)|refine Quo.r (And.intro (by omega) ?_)|refine Both.mk ?_ ?_|refine Exists.intro _ (And.intro rfl ?_)|refine rep_in ?_|refine opt_use (by assumption) ?_|refine vrow_use (by assumption) ?_|refine vrow_in (fun _ _=>?_)|refine brow_use (by assumption) ?_|refine brow_in (fun _ _=>?_)|refine fun _=>?_))|exact rfl)
      · refine ⟨(k + 1, b.set j true), [0], ⟨by dsimp only; omega, vwk_next (gV_sorted hv) hv1 hwk hx2 hj⟩, by dsimp only; omega, ?_⟩
        repeat' (first|((conv=>whnf); (first|refine Exists.intro g (Exists.intro j (And.intro rfl (And.intro hv (And.intro hj (And.intro hc (And.intro (by omega) (And.intro hp ?_)))))))|refine brK_dec (fun _=>?_) (fun _=>?_)|refine brK_ndec (fun _=>?_) (fun _=>?_)|refine brK_not (fun _=>?_) (fun _=>?_)|refine brK_in (fun _=>?_) (fun _=>?_)|refine And.intro (by first|exact rfl|exact (by rw [← brow_set]; rfl)|exact ⟨_,rfl,rfl⟩|exact ⟨rfl,rfl,rfl⟩|exact of_decide_eq_true rfl|exact trivial|assumption|omega|(show (_ ≤ _ ∧ _ ≤ _); omega)|(simp; omega)|exact ⟨by first|omega|(simp; omega),_,rfl,rfl⟩) ?_|refine Quo.l (And.intro (by first|exact rfl|exact (by rw [← brow_set]; rfl)|assumption|omega|(simp; omega)) ?_)|refine Quo.r (And.intro (by omega) ?_)|refine Both.mk ?_ ?_|refine Exists.intro _ (And.intro rfl ?_)|refine rep_in ?_|refine opt_use (by assumption) ?_|refine vrow_use (by assumption) ?_|refine vrow_in (fun _ _=>?_)|refine brow_use (by assumption) ?_|refine brow_in (fun _ _=>?_)|refine fun _=>?_))|exact rfl)
      · rename_i f0 z hz f1
        rw [e1, f1] at hz
        refine ⟨(m, (bits * 37 + 11) % 1009, b), [0], ⟨by dsimp only; omega, hm.1, hm.2, vwk_end hv1 hwk (.inr hz)⟩, by dsimp only; omega, ?_⟩
        repeat' (first|((conv=>whnf); (first|refine Exists.intro g (Exists.intro j (And.intro rfl (And.intro hv (And.intro hj (And.intro hc (And.intro (by omega) (And.intro hp ?_)))))))|refine brK_dec (fun _=>?_) (fun _=>?_)|refine brK_ndec (fun _=>?_) (fun _=>?_)|refine brK_not (fun _=>?_) (fun _=>?_)|refine brK_in (fun _=>?_) (fun _=>?_)|refine And.intro (by first|exact rfl|exact (by simp)|exact ⟨_,rfl,rfl⟩|exact ⟨rfl,rfl,rfl⟩|exact of_decide_eq_true rfl|exact trivial|assumption|omega|(show (_ ≤ _ ∧ _ ≤ _); omega)|(simp; omega)|exact ⟨by first|omega|(simp; omega),_,rfl,rfl⟩) ?_|refine Quo.l (And.intro (by first|exact rfl|exact (by simp)|assumption|omega|(simp; omega)) ?_)|refine Quo.r (And.intro (by omega) ?_)|refine Both.mk ?_ ?_|refine Exists.intro _ (And.intro rfl ?_)|refine rep_in ?_|refine opt_use (by assumption) ?_|refine vrow_use (by assumption) ?_|refine vrow_in (fun _ _=>?_)|refine brow_use (by assumption) ?_|refine brow_in (fun _ _=>?_)|refine fun _=>?_))|exact rfl)
      · omega
    · repeat' (first|((conv=>whnf); (first|refine draw_plan (id := 10) [] [19] (.take 0 (.take 1 (.take 2 (.take 3 (.take 4 (.take 5 (.take 6 (.take 7 (.take 8 (.take 9 (.take 10 (.take 11 (.take 12 (.take 13 (.take 14 (.take 15 (.take 16 (.run 17 (.take 18 (.run 19 .done)))))))))))))))))))) (by kernel_rfl) (by kernel_rfl) ?_|refine brK_dec (fun _=>?_) (fun _=>?_)|refine brK_ndec (fun _=>?_) (fun _=>?_)|refine brK_not (fun _=>?_) (fun _=>?_)|refine brK_in (fun _=>?_) (fun _=>?_)|refine And.intro (by first|exact rfl|exact ⟨_,rfl,rfl⟩|exact ⟨rfl,rfl,rfl⟩|exact of_decide_eq_true rfl|exact trivial|assumption|omega|(show (_ ≤ _ ∧ _ ≤ _); omega)|(simp; omega)|exact ⟨by first|omega|(simp; omega),_,rfl,rfl⟩) ?_|refine Quo.l (And.intro (by first|exact rfl|assumption|omega|(simp; omega)) ?_)|refine Quo.r (And.intro (by omega) ?_)|refine Both.mk ?_ ?_|refine Exists.intro _ (And.intro rfl ?_)|refine rep_in ?_|refine opt_use (by assumption) ?_|refine vrow_use (by assumption) ?_|refine vrow_in (fun _ _=>?_)|refine brow_use (by assumption) ?_|refine brow_in (fun _ _=>?_)|refine fun _=>?_))|exact rfl)
      · omega
      · omega
      · refine ⟨(m, (bits * 37 + 11) % 1009, b), [0], ⟨by dsimp only; omega, hm.1, hm.2, vwk_end hv1 hwk (.inl hkl)⟩, by dsimp only; omega, ?_⟩
        repeat' (first|((conv=>whnf); (first|refine brK_dec (fun _=>?_) (fun _=>?_)|refine brK_ndec (fun _=>?_) (fun _=>?_)|refine brK_not (fun _=>?_) (fun _=>?_)|refine brK_in (fun _=>?_) (fun _=>?_)|refine And.intro (by first|exact rfl|exact (by simp)|exact ⟨_,rfl,rfl⟩|exact ⟨rfl,rfl,rfl⟩|exact of_decide_eq_true rfl|exact trivial|assumption|omega|(show (_ ≤ _ ∧ _ ≤ _); omega)|(simp; omega)|exact ⟨by first|omega|(simp; omega),_,rfl,rfl⟩) ?_|refine Quo.l (And.intro (by first|exact rfl|exact (by simp)|assumption|omega|(simp; omega)) ?_)|refine Quo.r (And.intro (by omega) ?_)|refine Both.mk ?_ ?_|refine Exists.intro _ (And.intro rfl ?_)|refine rep_in ?_|refine opt_use (by assumption) ?_|refine vrow_use (by assumption) ?_|refine vrow_in (fun _ _=>?_)|refine brow_use (by assumption) ?_|refine brow_in (fun _ _=>?_)|refine fun _=>?_))|exact rfl)
  · omega
end Vw
theorem k_laws_view : Keeps' Tryz.prog 46 c_laws_view := Vw.k_laws_view
end Go.Proofs.YtkabnbjlglippaaGreatDoor
