/-
The digest of an epoch: the program's way, over the builder of texts.
No conditions.
-/
import Derived.Test.YtdljacpmoaeepaaDoorBldA
import Derived.Test.YtdljacpmoaeepaaDoorStrA
import Derived.Test.YtdljacpmoaeepaaDoorEvB
import Derived.Test.YtdljacpmoaeepaaDoorVcMG
import Derived.Lib.SmallJoins
import Derived.Deep.RegionWith
import Derived.Deep.DeepCutAuto
import Derived.LoopTactic
namespace Go.Proofs.YtdljacpmoaeepaaDoor
open Go Go.Vc Go.RowKit Go.Proofs Go.Sort
set_option maxHeartbeats 4000000
set_option maxRecDepth 100000
theorem below_grow (w : World) (k : Nat) (os : Array Obj) : Below w.heap.size w (grow (w.drewN k) os) := by
  have e : (w.drewN k).heap = w.heap := by simp [World.drewN]
  refine ⟨rfl, rfl, rfl, ?_, fun i hi => ?_⟩
  · simp [grow]
  · simp only [grow, e]
    rw [Array.getElem?_append_left hi]
abbrev tabOk (w : World) : Prop := Lib.TabIs Tryd.prog w "internal/strconv.uint64pow10" .u64 Lib.pow10Tab
theorem tab_glob : Tryd.prog.globalNamed "internal/strconv.uint64pow10" = some 0 := by kernel_rfl
theorem tab_low {w w' : World} {B : Nat} (h : tabOk w) (hb : Below B w w') (hB : 0 < B) : tabOk w' := by
  unfold tabOk Lib.TabIs World.var? at h ⊢
  rw [tab_glob] at h ⊢
  simp only [Option.bind_some] at h ⊢
  rw [hb.block 0 hB]
  exact h
theorem tab_lt {w : World} (h : tabOk w) : 0 < w.heap.size := by
  unfold tabOk Lib.TabIs World.var? at h
  rw [tab_glob] at h
  simp only [Option.bind_some] at h
  rcases Nat.lt_or_ge 0 w.heap.size with h1 | h1
  · exact h1
  · rw [Array.getElem?_eq_none h1] at h
    simp at h
theorem itoa_calls (n : Int) (h0 : -9223372036854775808 ≤ n) (h1 : n ≤ 9223372036854775807) (w : World) (ht : tabOk w) :
    Calls Tryd.prog 55 #[.int .i64 n] w fun e w' => e = .returned (.string ⟨(Lib.itoa n).toArray⟩) ∧ Below w.heap.size w w' := by
  refine (Tryd.strconv_Itoa n h0 h1 w ht).mono ?_
  rintro e w' ⟨rfl, k, os, rfl⟩
  exact ⟨rfl, below_grow w k os⟩
theorem bld_stays {B b : Nat} {bs : List Value} {w w' : World} (h : Lib.IsBuilder 71 5 B b bs w) (hb : Below w.heap.size w w') : Lib.IsBuilder 71 5 B b bs w' := by
  have key : ∀ p, Lib.BuilderAt 71 5 B b p bs w → Lib.BuilderAt 71 5 B b p bs w' := by
    intro p h
    have hlt := h.lt
    obtain ⟨hB, v, h1, h2, h3⟩ := h
    refine ⟨hB, v, (hb.block b hlt).trans h1, ?_, h3⟩
    exact h2.kept (row := none) ⟨hb.os, hb.tape, hb.output, hb.size, fun k hk _ => hb.block k hk⟩ (by cases v.ownBlock <;> simp)
  exact h.imp (key _) (key _)
theorem out_keeps {w w' : World} (hb : Below w.heap.size w w') : Keeps (outC w) (outC w') := by
  refine ⟨fun b h => ?_, fun b h => ?_, fun b h => ?_, fun b h => ?_, ⟨Nat.le_refl _, fun _ _ => rfl⟩⟩
  · rcases h with h | ⟨h1, h2, _⟩
    · exact .inl (Nat.lt_of_lt_of_le h hb.size)
    · exact .inl (Nat.lt_of_lt_of_le h2 hb.size)
  · rcases h with h | ⟨h1, h2, _⟩
    · exact hb.block b h
    · exact hb.block b h2
  · exact Nat.lt_of_lt_of_le (show b < w.heap.size from h) hb.size
  · exact hb.block b h
theorem valid_calls {n r : Int} {c k : List Int} (hc : c.length < 2000000) (hk : k.length < 2000000) {w : World} {v1 v2 : Value} (h1 : RepV (outC w) (.ints c) v1) (h2 : RepV (outC w) (.ints k) v2) :
    Calls Tryd.prog 22 #[.agg #[.int .i64 n, v1, v2, .int .i64 r]] w fun e w' => e = .returned (.bool (EpV n c k r)) ∧ Below w.heap.size w w' := by
  have hr : RepV (outC w) (.agg [I n, .ints c, .ints k, I r]) (.agg #[.int .i64 n, v1, v2, .int .i64 r]) :=
    (rep_cons (.val _) rfl (rep_cons h1 (ints_one h1) (rep_cons h2 (ints_one h2) (RepL.one (.val _) rfl)))).agg
  exact calls_law k_impl_EpochValid (repA_cons hr repA_nil) ⟨rfl, hc, hk, rfl⟩
def pairT (c k : List Int) : List UInt8 := (c.zip k).flatMap fun p => 44 :: (Lib.itoa p.1 ++ 47 :: Lib.itoa p.2)
def epT (n : Int) (c k : List Int) (r : Int) : List UInt8 := Lib.itoa n ++ 58 :: (Lib.itoa r ++ pairT c k)
/-- What stays from call to call: the epoch's box, the builder's text, the table. -/
structure EdS (W : World) (B : Nat) (n : Int) (v1 v2 : Value) (r : Int) (b : Nat) (l : List UInt8) (w : World) : Prop where
  c0 : w.cell? ⟨B, 0, none⟩ = some (.int .i64 n)
  c1 : w.cell? ⟨B, 1, none⟩ = some v1
  c2 : w.cell? ⟨B, 2, none⟩ = some v2
  c3 : w.cell? ⟨B, 3, none⟩ = some (.int .i64 r)
  lt : B < b
  le : W.heap.size ≤ B
  bld : Lib.IsBuilder 71 5 b b (Lib.byteCells l) w
  tab : tabOk w
  low : Below W.heap.size W w
  gt : 0 < b
theorem EdS.move {W : World} {B : Nat} {n : Int} {v1 v2 : Value} {r : Int} {b : Nat} {l : List UInt8} {w w' : World} (h : EdS W B n v1 v2 r b l w) (hb : Below w.heap.size w w') : EdS W B n v1 v2 r b l w' := by
  have hlt : b < w.heap.size := by
    rcases h.bld with h | h <;> exact h.lt
  have hB : B < w.heap.size := Nat.lt_trans h.lt hlt
  refine ⟨?_, ?_, ?_, ?_, h.lt, h.le, bld_stays h.bld hb, Joins.tab_stays tab_glob h.tab hb (Nat.le_refl _), h.low.trans (hb.mono h.low.size), h.gt⟩
  · exact (hb.cell (p := ⟨B, 0, none⟩) hB).trans h.c0
  · exact (hb.cell (p := ⟨B, 1, none⟩) hB).trans h.c1
  · exact (hb.cell (p := ⟨B, 2, none⟩) hB).trans h.c2
  · exact (hb.cell (p := ⟨B, 3, none⟩) hB).trans h.c3
theorem itoa_at {W : World} {B : Nat} {n : Int} {v1 v2 : Value} {r : Int} {b : Nat} {l : List UInt8} {w : World} (h : EdS W B n v1 v2 r b l w) (x : Int) (h0 : -9223372036854775808 ≤ x) (h1 : x ≤ 9223372036854775807) :
    Calls Tryd.prog 55 #[.int .i64 x] w fun e w' => e = .returned (.string ⟨(Lib.itoa x).toArray⟩) ∧ EdS W B n v1 v2 r b l w' ∧ w'.cell? ⟨B, 0, none⟩ = some (.int .i64 n) ∧ w'.cell? ⟨B, 1, none⟩ = some v1 ∧ w'.cell? ⟨B, 2, none⟩ = some v2 ∧ w'.cell? ⟨B, 3, none⟩ = some (.int .i64 r) := by
  refine (itoa_calls x h0 h1 w h.tab).mono ?_
  rintro e w' ⟨rfl, hb⟩
  have h' := h.move hb
  exact ⟨rfl, h', h'.c0, h'.c1, h'.c2, h'.c3⟩
theorem write_at {W : World} {B : Nat} {n : Int} {v1 v2 : Value} {r : Int} {b : Nat} {l : List UInt8} {w : World} (h : EdS W B n v1 v2 r b l w) (s : ByteArray) (hl : l.length + s.size ≤ 140737488355328) :
    Calls Tryd.prog 54 #[.pointer (some ⟨b, 0, none⟩), .string s] w fun e w' => e = .returned (.tuple #[.int .i64 s.size, .nilIface]) ∧ EdS W B n v1 v2 r b (l ++ s.data.toList) w' := by
  have hlt : b < w.heap.size := by
    rcases h.bld with h | h <;> exact h.lt
  refine (write b b _ s w h.bld (by rw [Lib.byteCells_length]; exact hl) (Nat.le_of_lt hlt)).mono ?_
  rintro e w' ⟨rfl, h1, hb⟩
  refine ⟨rfl, ?_, ?_, ?_, ?_, h.lt, h.le, ?_, ?_, h.low.trans (hb.mono (Nat.le_trans h.le (Nat.le_of_lt h.lt))), h.gt⟩
  · exact (hb.cell (p := ⟨B, 0, none⟩) h.lt).trans h.c0
  · exact (hb.cell (p := ⟨B, 1, none⟩) h.lt).trans h.c1
  · exact (hb.cell (p := ⟨B, 2, none⟩) h.lt).trans h.c2
  · exact (hb.cell (p := ⟨B, 3, none⟩) h.lt).trans h.c3
  · refine Or.inr ?_
    have e : Lib.byteCells (l ++ s.data.toList) = Lib.byteCells l ++ Lib.strCells s := by simp [Lib.byteCells, Lib.strCells]
    rw [e]
    exact h1
  · exact tab_low h.tab hb h.gt
theorem digits_len : ∀ (k u : Nat), u < 10 ^ (k + 1) → (Lib.decDigits u).length ≤ k + 1
  | 0, u, h => by
    rw [Lib.decDigits, dif_pos (by simpa using h)]
    simp
  | k + 1, u, h => by
    rw [Lib.decDigits]
    split
    · simp
    · have := digits_len k (u / 10) (by rw [Nat.pow_succ] at h; omega)
      simp
      omega
theorem itoa_len {x : Int} (h0 : 0 ≤ x) (h1 : x ≤ 999) : (Lib.itoa x).length ≤ 3 := by
  have e : Lib.itoa x = Lib.decDigits x.toNat := by
    unfold Lib.itoa
    rw [if_neg (by omega)]
  rw [e]
  exact digits_len 2 _ (by omega)
theorem pair_len : ∀ {c k : List Int}, (∀ x ∈ c, 0 ≤ x ∧ x ≤ 999) → (∀ x ∈ k, 0 ≤ x ∧ x ≤ 999) → (pairT c k).length ≤ 8 * c.length
  | [], _, _, _ => by simp [pairT]
  | _ :: _, [], _, _ => by simp [pairT]
  | x :: c, y :: k, hc, hk => by
    have h1 := itoa_len (hc x (by simp)).1 (hc x (by simp)).2
    have h2 := itoa_len (hk y (by simp)).1 (hk y (by simp)).2
    have h3 := pair_len (c := c) (k := k) (fun z hz => hc z (by simp [hz])) (fun z hz => hk z (by simp [hz]))
    simp [pairT] at h3 ⊢
    omega
theorem pair_take {c k : List Int} {i : Nat} {x y : Int} (hx : c[i]? = some x) (hy : k[i]? = some y) : pairT (c.take (i + 1)) (k.take (i + 1)) = pairT (c.take i) (k.take i) ++ 44 :: (Lib.itoa x ++ 47 :: Lib.itoa y) := by
  have h1 : i < c.length := (List.getElem?_eq_some_iff.1 hx).1
  have h2 : i < k.length := (List.getElem?_eq_some_iff.1 hy).1
  have e : (c.take i).length = (k.take i).length := by simp; omega
  unfold pairT
  rw [List.take_add_one, List.take_add_one, hx, hy, Option.toList_some, Option.toList_some, List.zip_append e]
  simp
theorem EpV_out {n r : Int} {c k : List Int} (h : EpV n c k r = true) : (0 ≤ n ∧ n ≤ 99) ∧ (0 ≤ r ∧ r ≤ 990) ∧ 1 ≤ c.length ∧ c.length ≤ 7 ∧ k.length = c.length ∧ (∀ x ∈ c, 0 ≤ x ∧ x ≤ 999) ∧ (∀ x ∈ k, 0 ≤ x ∧ x ≤ 999) := by
  simp [EpV, keysV, comV, inR] at h
  obtain ⟨⟨h1, ⟨h2, h3⟩, h4⟩, h5, h6, h7⟩ := h
  refine ⟨by omega, by omega, by omega, by omega, h4, fun x hx => ?_, fun x hx => ?_⟩
  · have := h2 x hx; omega
  · have := h1 x hx; omega
theorem ints_cells {w : World} {c : List Int} {v : Value} (h : RepV (outC w) (.ints c) v) (h1 : 1 ≤ c.length) : ∃ b o cap, v = .slice (some ⟨b, o, none⟩) c.length cap ∧ b < w.heap.size ∧ ∀ (i : Nat) x, c[i]? = some x → w.cell? ⟨b, o + i, none⟩ = some (.int .i64 x) := by
  cases h with
  | ints l v h =>
    have hl := icells_length c
    have hg : ∀ (i : Nat) x, c[i]? = some x → (icells c)[i]? = some [I x] := fun i x hx => icells_get.2 ⟨x, hx, rfl⟩
    revert hl hg h
    generalize icells c = cs
    intro h hl hg
    cases h with
    | sl0 => simp at hl; omega
    | sl _ _ b off cap vf hok hcap hl' hc hh =>
      refine ⟨b, off, cap, by rw [hl], ?_, fun i x hx => ?_⟩
      · rcases hok with h | ⟨_, h, _⟩ <;> exact h
      · have h2 := hc i _ 0 _ (hg i x hx) rfl
        have h3 := hh i _ 0 _ (hg i x hx) rfl
        have h4 : vf i 0 = .int .i64 x := by
          revert h3
          generalize vf i 0 = u
          intro h3
          cases h3
          rfl
        rw [h4] at h2
        have h5 : w.cell? ⟨b, off + i * 1 + 0, none⟩ = some (.int .i64 x) := h2.1
        rw [Nat.mul_one, Nat.add_zero] at h5
        exact h5
theorem calls_int {f : FuncId} {con : Con} (hk : Keeps' Tryd.prog f con) {W : World} {args : List Value} {aargs : List AV} {z : Int} (hargs : RepA (outC W) aargs args) (hc : con.C aargs [] [] fun r _ _ => r = I z) :
    Calls Tryd.prog f args.toArray W fun e W' => e = .returned (.int .i64 z) ∧ Below W.heap.size W W' := by
  refine (hk (outE W) args aargs [] [] _ hc hargs.1 rfl (out_sat W) hargs.2 (fun h => by cases h)).mono ?_
  rintro e W' ⟨v, r, hs, nF, ρ, A, rfl, rfl, hsat, hr, _⟩
  have hv : v = .int .i64 z := by cases hr; rfl
  subst hv
  exact ⟨rfl, hsat.os, hsat.tape, hsat.output, hsat.size, fun k hk' => hsat.frame k hk' fun i hi => absurd hi (by simp [outE])⟩
theorem dig_calls (l : List UInt8) (hl : l.length ≤ 1000000) (w : World) : Calls Tryd.prog 56 #[.string ⟨l.toArray⟩] w fun e w' => e = .returned (.int .i64 (dig l)) ∧ Below w.heap.size w w' := by
  have := calls_int k_impl_digestOf (W := w) (args := [.string ⟨l.toArray⟩]) (aargs := [.val (.string ⟨l.toArray⟩)]) (z := dig l) (repA_cons (.val _) repA_nil) ⟨rfl, hl, rfl⟩
  exact this
theorem ed_text1 {W : World} {B : Nat} {n : Int} {v1 v2 : Value} {r : Int} {b : Nat} {w : World} (h : EdS W B n v1 v2 r b ([] ++ ((⟨(Lib.itoa n).toArray⟩ : ByteArray) ++ ⟨#[58]⟩ ++ ⟨(Lib.itoa r).toArray⟩).data.toList) w) : EdS W B n v1 v2 r b (Lib.itoa n ++ 58 :: Lib.itoa r) w := by
  simpa using h
theorem ed_text2 {W : World} {B : Nat} {n : Int} {v1 v2 : Value} {r : Int} {b : Nat} {w : World} {p : List UInt8} {x y : Int} (h : EdS W B n v1 v2 r b ((Lib.itoa n ++ 58 :: (Lib.itoa r ++ p)) ++ ((⟨#[44]⟩ : ByteArray) ++ ⟨(Lib.itoa x).toArray⟩ ++ ⟨#[47]⟩ ++ ⟨(Lib.itoa y).toArray⟩).data.toList) w) :
    EdS W B n v1 v2 r b (Lib.itoa n ++ 58 :: (Lib.itoa r ++ (p ++ 44 :: (Lib.itoa x ++ 47 :: Lib.itoa y)))) w := by
  simpa using h
theorem itoa_at2 {W : World} {B : Nat} {n : Int} {v1 v2 : Value} {r : Int} {b : Nat} {l : List UInt8} {w : World} (h : EdS W B n v1 v2 r b l w) (x : Int) (h0 : -9223372036854775808 ≤ x) (h1 : x ≤ 9223372036854775807) (p : Addr) (u : Value) (hp : p.block < W.heap.size) (hu : W.cell? p = some u) :
    Calls Tryd.prog 55 #[.int .i64 x] w fun e w' => e = .returned (.string ⟨(Lib.itoa x).toArray⟩) ∧ EdS W B n v1 v2 r b l w' ∧ w'.cell? ⟨B, 0, none⟩ = some (.int .i64 n) ∧ w'.cell? ⟨B, 1, none⟩ = some v1 ∧ w'.cell? ⟨B, 2, none⟩ = some v2 ∧ w'.cell? ⟨B, 3, none⟩ = some (.int .i64 r) ∧ w'.cell? p = some u := by
  refine (itoa_at h x h0 h1).mono ?_
  rintro e w' ⟨rfl, hE, e0, e1, e2, e3⟩
  exact ⟨rfl, hE, e0, e1, e2, e3, (hE.low.cell hp).trans hu⟩
theorem ed_start {n r : Int} {v1 v2 : Value} {w w2 : World} (ht : tabOk w) (hb2 : Below (w.alloc (.cells #[.int .i64 n, v1, v2, .int .i64 r] 28)).heap.size (w.alloc (.cells #[.int .i64 n, v1, v2, .int .i64 r] 28)) w2) :
    EdS w w.heap.size n v1 v2 r w2.heap.size [] (w2.alloc (.cells #[.pointer none, .slice none 0 0] 71)).drew := by
  have hsz : w.heap.size + 1 ≤ w2.heap.size := by have := hb2.size; simpa using this
  have hb0 : Below w.heap.size w (w.alloc (.cells #[.int .i64 n, v1, v2, .int .i64 r] 28)) := (Below.refl _ w).alloc (Nat.le_refl _) _
  have hbb : Below w.heap.size w w2 := hb0.trans (hb2.mono (by simp))
  have cl : ∀ j, w2.cell? ⟨w.heap.size, j, none⟩ = #[Value.int .i64 n, v1, v2, .int .i64 r][j]? := fun j => by
    rw [hb2.cell (p := ⟨w.heap.size, j, none⟩) (by simp), World.cell?]
    have := heap_alloc_new w (.cells #[.int .i64 n, v1, v2, .int .i64 r] 28)
    simp only
    rw [this]
    rfl
  have hal : Below w2.heap.size w2 (w2.alloc (.cells #[.pointer none, .slice none 0 0] 71)) := (Below.refl _ w2).alloc (Nat.le_refl _) _
  have hS0 : EdS w w.heap.size n v1 v2 r w2.heap.size [] (w2.alloc (.cells #[.pointer none, .slice none 0 0] 71)) := by
    refine ⟨?_, ?_, ?_, ?_, by omega, Nat.le_refl _, Lib.fresh_isBuilder _ _ w2, ?_, ?_, by have := tab_lt ht; omega⟩
    · exact (hal.cell (p := ⟨w.heap.size, 0, none⟩) (by simp; omega)).trans (cl 0)
    · exact (hal.cell (p := ⟨w.heap.size, 1, none⟩) (by simp; omega)).trans (cl 1)
    · exact (hal.cell (p := ⟨w.heap.size, 2, none⟩) (by simp; omega)).trans (cl 2)
    · exact (hal.cell (p := ⟨w.heap.size, 3, none⟩) (by simp; omega)).trans (cl 3)
    · exact Joins.tab_stays tab_glob ht (hbb.trans (hal.mono (by omega))) (Nat.le_refl _)
    · exact hbb.trans (hal.mono (by omega))
  exact hS0.move (Below.refl _ _).drew
set_option maxRecDepth 1000000 in
theorem ed_walk {n r : Int} {c k : List Int} (hv : EpV n c k r = true) {w : World} {v1 v2 : Value} (h1 : RepV (outC w) (.ints c) v1) (h2 : RepV (outC w) (.ints k) v2) (ht : tabOk w) :
    Calls Tryd.prog 40 #[.agg #[.int .i64 n, v1, v2, .int .i64 r]] w fun e w' => e = .returned (.int .i64 (dig (epT n c k r))) ∧ Below w.heap.size w w' := by
  obtain ⟨⟨n0, n1⟩, ⟨r0, r1⟩, lc0, lc1, lk, hcx, hkx⟩ := EpV_out hv
  have li1 := itoa_len (x := n) n0 (by omega)
  have li2 := itoa_len (x := r) r0 (by omega)
  go_enter Tryd.func40, Tryd.ntmps40
  have hb0 : Below w.heap.size w (w.alloc (.cells #[.int .i64 n, v1, v2, .int .i64 r] 28)) := (Below.refl _ w).alloc (Nat.le_refl _) _
  go_wp2_with (go_at_call 22; refine (valid_calls (c := c) (k := k) (by omega) (by omega) (h1.pure_move (out_keeps hb0) rfl) (h2.pure_move (out_keeps hb0) rfl)).mono ?_)
  rintro e w2 ⟨rfl, hb2⟩
  rw [hv]
  have hS := ed_start ht hb2
  go_wp2
  have d0 := hS.c0
  have d3 := hS.c3
  have ln1 : (Lib.itoa n).length + 1 ≤ 9223372036854775807 := by omega
  have ln2 : (Lib.itoa n).length + 1 + (Lib.itoa r).length ≤ 9223372036854775807 := by omega
  have lw : ([] : List UInt8).length + ((⟨(Lib.itoa n).toArray⟩ : ByteArray) ++ ⟨#[58]⟩ ++ ⟨(Lib.itoa r).toArray⟩).size ≤ 140737488355328 := by
    simp [ByteArray.size]
    omega
  go_cut [] (fun wx => EdS w w.heap.size n v1 v2 r w2.heap.size (Lib.itoa n ++ 58 :: Lib.itoa r) wx)
  case first =>
    go_region_with (first | (go_at_call 55; refine (itoa_at (by assumption) _ (by omega) (by omega)).mono ?_; rintro e w' ⟨rfl, hE, e0, e1, e2, e3⟩) | (go_at_call 54; refine (write_at (by assumption) _ (by exact lw)).mono ?_; rintro e w' ⟨rfl, hE⟩))
    all_goals (go_wp2_with fail; go_meet)
    all_goals exact ed_text1 hE
  case rest =>
    obtain ⟨b1, o1, cap1, rfl, bl1, cc⟩ := ints_cells h1 lc0
    obtain ⟨b2, o2, cap2, hv2, bl2, ck⟩ := ints_cells h2 (by omega)
    rw [lk] at hv2
    subst hv2
    have e1 := hcut.c1
    go_wp2
    go_loopw [4, 5, 21] (fun _ _ s21 wr => ∃ i : Nat, s21 = .int .i64 i ∧ i ≤ c.length ∧ EdS w w.heap.size n (.slice (some ⟨b1, o1, none⟩) c.length cap1) (.slice (some ⟨b2, o2, none⟩) c.length cap2) r w2.heap.size (Lib.itoa n ++ 58 :: (Lib.itoa r ++ pairT (c.take i) (k.take i))) wr) (fun _ _ s21 wr => c.length - (intOf s21).toNat)
    case atStart => exact ⟨0, rfl, Nat.zero_le _, by simpa [pairT] using hcut⟩
    case round =>
      obtain ⟨i, rfl, hi, hE⟩ := hrel
      have hlo : w.heap.size ≤ w2.heap.size := Nat.le_of_lt (Nat.lt_of_le_of_lt hE.le hE.lt)
      by_cases hic : i < c.length
      · obtain ⟨x, hx⟩ : ∃ x, c[i]? = some x := ⟨_, List.getElem?_eq_getElem hic⟩
        obtain ⟨y, hy⟩ : ∃ y, k[i]? = some y := ⟨_, List.getElem?_eq_getElem (by omega)⟩
        have hlt : (i : Int) < (c.length : Int) := by omega
        have hxb := hcx x (List.mem_of_getElem? hx)
        have hyb := hkx y (List.mem_of_getElem? hy)
        have lx := itoa_len hxb.1 hxb.2
        have ly := itoa_len hyb.1 hyb.2
        have gx : wr.cell? ⟨b1, o1 + i, none⟩ = some (.int .i64 x) := (hE.low.cell (p := ⟨b1, o1 + i, none⟩) bl1).trans (cc i x hx)
        go_wp2
        have hF := hE.move (Below.refl _ _).drew
        have f2 := hF.c2
        have gy : wr.drew.cell? ⟨b2, o2 + i, none⟩ = some (.int .i64 y) := (hF.low.cell (p := ⟨b2, o2 + i, none⟩) bl2).trans (ck i y hy)
        have m1 : 1 + (Lib.itoa x).length ≤ 9223372036854775807 := by omega
        have m2 : 1 + (Lib.itoa x).length + 1 ≤ 9223372036854775807 := by omega
        have m3 : 1 + (Lib.itoa x).length + 1 + (Lib.itoa y).length ≤ 9223372036854775807 := by omega
        have lt1 : (pairT (c.take i) (k.take i)).length ≤ 8 * (c.take i).length := pair_len (fun z hz => hcx z (List.mem_of_mem_take hz)) (fun z hz => hkx z (List.mem_of_mem_take hz))
        have lw2 : (Lib.itoa n ++ 58 :: (Lib.itoa r ++ pairT (c.take i) (k.take i))).length + ((⟨#[44]⟩ : ByteArray) ++ ⟨(Lib.itoa x).toArray⟩ ++ ⟨#[47]⟩ ++ ⟨(Lib.itoa y).toArray⟩).size ≤ 140737488355328 := by
          simp only [List.length_take] at lt1
          simp [ByteArray.size]
          omega
        go_region_with (first | (go_at_call 55; refine (itoa_at2 (by assumption) _ (by omega) (by omega) ⟨b2, o2 + i, none⟩ (.int .i64 y) bl2 (ck i y hy)).mono ?_; rintro e w' ⟨rfl, hE, e0, e1, e2, e3, e4⟩) | (go_at_call 54; refine (write_at (by assumption) _ (by exact lw2)).mono ?_; rintro e w' ⟨rfl, hE⟩))
        all_goals (go_wp2; go_roundw)
        all_goals first
          | exact ⟨i + 1, by simp, by omega, by rw [pair_take hx hy]; exact ed_text2 hE⟩
          | (simp [intOf]; omega)
      · have hge : ¬ ((i : Int) < (c.length : Int)) := by omega
        have e1 : c.take i = c := List.take_of_length_le (by omega)
        have e2 : k.take i = k := List.take_of_length_le (by omega)
        rw [e1, e2] at hE
        have lt1 : (pairT c k).length ≤ 8 * c.length := pair_len hcx hkx
        have hlen : (epT n c k r).length ≤ 1000000 := by simp [epT]; omega
        have hbw : w2.heap.size ≤ wr.heap.size := by rcases hE.bld with h | h <;> exact Nat.le_of_lt h.lt
        go_wp2_with (first | (go_at_call 57; refine (Tryd.Builder_String_any _ _ (epT n c k r) _ hE.bld hbw).mono ?_; rintro e w5 ⟨rfl, hb5⟩) | (go_at_call 56; refine (dig_calls _ hlen _).mono ?_; rintro e w6 ⟨rfl, hb6⟩))
        go_ret
        exact ⟨rfl, (hE.low.trans (hb5.mono hlo)).trans (hb6.mono (Nat.le_trans hlo (Nat.le_trans hbw hb5.size)))⟩
end Go.Proofs.YtdljacpmoaeepaaDoor
