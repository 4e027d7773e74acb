/-
Marks on slices that lie in the elements of a slice: on links.
No conditions.
-/
import Derived.Test.YtdljacpmoaeepaaDoorZlA
import Derived.Test.YtdljacpmoaeepaaDoorMvI
namespace Go.Proofs.YtdljacpmoaeepaaDoor
open Go Go.Vc Go.RowKit
set_option maxHeartbeats 4000000
set_option maxRecDepth 100000
/-- The number behind the marks of the links. -/
def mkLk (ls : List LkD) (k : Int) : Int := k + (ls.map fun x => 4 + (x.e.c.length : Int) + x.e.k.length + x.s.length).sum
theorem mkLk_snoc {ls : List LkD} {i : Nat} {x : LkD} {k : Int} (h : ls[i]? = some x) : mkLk (ls.take (i + 1)) k = mkLk (ls.take i) k + 4 + x.e.c.length + x.e.k.length + x.s.length := by
  unfold mkLk
  rw [List.take_add_one, h]
  simp only [Option.toList_some, List.map_append, List.map_cons, List.map_nil, List.sum_append, List.sum_cons, List.sum_nil]
  omega
theorem sumL_le {ls : List LkD} (h : ∀ x ∈ ls, x.mid) : 0 ≤ (ls.map fun x => 4 + (x.e.c.length : Int) + x.e.k.length + x.s.length).sum ∧ (ls.map fun x => 4 + (x.e.c.length : Int) + x.e.k.length + x.s.length).sum ≤ ls.length * 3145732 := by
  induction ls with
  | nil => simp
  | cons x g ih =>
    have h1 := ih fun y hy => h y (by simp [hy])
    obtain ⟨h2, h3, h4⟩ := h x (by simp)
    simp only [List.map_cons, List.sum_cons, List.length_cons]
    omega
theorem mkLk_le {ls : List LkD} (h : ∀ x ∈ ls, x.mid) (hl : ls.length ≤ 1048576) (k : Int) (i : Nat) : k ≤ mkLk (ls.take i) k ∧ mkLk (ls.take i) k ≤ k + 3298539077632 := by
  have h1 := sumL_le (ls := ls.take i) fun x hx => h x (List.mem_of_mem_take hx)
  have h2 : (ls.take i).length ≤ 1048576 := by simp; omega
  unfold mkLk
  omega
/-- What stays of the outer row. -/
structure LkS (B : Nat → Prop) (b0 : Nat) (W w : World) (ls : List LkD) (us : Nat → Nat → Value) : Prop where
  shp : Shp (fun b => B b ∨ b = b0) W w
  par : ∀ (i : Nat) x, ls[i]? = some x → (w.cell? ⟨b0, i * 7 + 1, none⟩ = some (us i 1) ∧ SlOk B w (us i 1) x.e.c.length) ∧ (w.cell? ⟨b0, i * 7 + 2, none⟩ = some (us i 2) ∧ SlOk B w (us i 2) x.e.k.length) ∧ (w.cell? ⟨b0, i * 7 + 5, none⟩ = some (us i 5) ∧ SlOk B w (us i 5) x.s.length)
theorem LkS.set {B : Nat → Prop} {b0 : Nat} {W w : World} {ls : List LkD} {us : Nat → Nat → Value} (h : LkS B b0 W w ls us) (off : Nat) (v : Value) (ho : ∀ i : Nat, off ≠ i * 7 + 1 ∧ off ≠ i * 7 + 2 ∧ off ≠ i * 7 + 5) : LkS B b0 W (w.setCell ⟨b0, off, none⟩ v) ls us := by
  have hk := (Shp.refl (fun b => b = b0) w).setCell rfl off v
  have hc : ∀ o, off ≠ o → (w.setCell ⟨b0, off, none⟩ v).cell? ⟨b0, o, none⟩ = w.cell? ⟨b0, o, none⟩ := fun o hne => World.cell?_setCell_other _ _ _ _ (by intro e; cases e; exact hne rfl)
  refine ⟨h.shp.setCell (.inr rfl) off v, fun i x hx => ?_⟩
  obtain ⟨⟨a1, a2⟩, ⟨b1, b2⟩, c1, c2⟩ := h.par i x hx
  obtain ⟨o1, o2, o3⟩ := ho i
  exact ⟨⟨(hc _ o1).trans a1, a2.move hk⟩, ⟨(hc _ o2).trans b1, b2.move hk⟩, (hc _ o3).trans c1, c2.move hk⟩
theorem LkS.go {B : Nat → Prop} {b0 : Nat} {W w w' : World} {ls : List LkD} {us : Nat → Nat → Value} (h : LkS B b0 W w ls us) (hb : ¬ B b0) (k : Shp B w w') : LkS B b0 W w' ls us := by
  have hc : ∀ o, w'.cell? ⟨b0, o, none⟩ = w.cell? ⟨b0, o, none⟩ := fun o => World.cell?_of_block (k.same b0 hb)
  refine ⟨h.shp.trans (k.mono fun b hB => .inl hB), fun i x hx => ?_⟩
  obtain ⟨⟨a1, a2⟩, ⟨b1, b2⟩, c1, c2⟩ := h.par i x hx
  exact ⟨⟨(hc _).trans a1, a2.move k⟩, ⟨(hc _).trans b1, b2.move k⟩, (hc _).trans c1, c2.move k⟩
theorem LkS.at {B : Nat → Prop} {b0 : Nat} {W w : World} {ls : List LkD} {us : Nat → Nat → Value} (h : LkS B b0 W w ls us) {vs0 : Array Value} {T0 : TypeId} (hb : W.heap[b0]? = some (.cells vs0 T0 (0, 0))) {off : Nat} (ho : off < vs0.size) : (∃ u, w.cell? ⟨b0, off, none⟩ = some u) ∧ w.frozen? ⟨b0, off, none⟩ = false := by
  obtain ⟨vs1, h1, h2⟩ := h.shp.shape b0 vs0 T0 _ hb
  exact cell_there h1 (by omega)
theorem markL_calls {B : Nat → Prop} {W : World} {b0 cap : Nat} {vs0 : Array Value} {T0 : TypeId} {ls : List LkD} {us : Nat → Nat → Value} (hB : ¬ B b0) (hb : W.heap[b0]? = some (.cells vs0 T0 (0, 0))) (hm : ls.length * 7 ≤ vs0.size)
    (hp : ∀ (i : Nat) x, ls[i]? = some x → (W.cell? ⟨b0, i * 7 + 1, none⟩ = some (us i 1) ∧ SlOk B W (us i 1) x.e.c.length) ∧ (W.cell? ⟨b0, i * 7 + 2, none⟩ = some (us i 2) ∧ SlOk B W (us i 2) x.e.k.length) ∧ (W.cell? ⟨b0, i * 7 + 5, none⟩ = some (us i 5) ∧ SlOk B W (us i 5) x.s.length))
    (hl : ls.length ≤ 1048576) (hmid : ∀ x ∈ ls, x.mid) (k : Int) (h0 : 0 ≤ k) (h1 : k ≤ 1000000000000000) :
    Calls Tryd.prog 13 #[.slice (some ⟨b0, 0, none⟩) ls.length cap, .int .i64 k] W fun e w' => e = .returned (.int .i64 (mkLk ls k)) ∧ Shp (fun b => B b ∨ b = b0) W w' := by
  go_enter Tryd.func13, Tryd.ntmps13
  go_wp2
  go_loopw [1, 5] (fun kv i wr => ∃ j : Nat, j ≤ ls.length ∧ kv = .int .i64 (mkLk (ls.take j) k) ∧ i = .int .i64 j ∧ LkS B b0 W wr ls us) (fun _ i _ => ls.length - (intOf i).toNat)
  case atStart => exact ⟨0, Nat.zero_le _, by simp [mkLk], rfl, Shp.refl _ _, hp⟩
  case round =>
    obtain ⟨j, hj, rfl, rfl, hS⟩ := hrel
    clear hp
    have hle := mkLk_le hmid hl k j
    generalize hz : mkLk (ls.take j) k = z at hle ⊢
    by_cases hlt : j < ls.length
    · obtain ⟨x, hx⟩ : ∃ x, ls[j]? = some x := ⟨_, List.getElem?_eq_getElem hlt⟩
      obtain ⟨m1, m2, m3⟩ := hmid x (List.mem_of_getElem? hx)
      have hsn := mkLk_snoc (k := k) hx
      rw [hz] at hsn
      obtain ⟨⟨u0, hu0⟩, hf0⟩ := hS.at hb (off := j * 7) (by omega)
      have hS1 := hS.set (j * 7) (.int .i64 z) (fun i => by omega)
      obtain ⟨⟨hc1, ok1⟩, -, -⟩ := hS1.par j x hx
      have call1 := markI_calls ok1 (z + 1) (by omega) (by omega) (by omega)
      obtain ⟨q1, q2⟩ : z + 1 ≤ 9223372036854775807 ∧ -9223372036854775808 ≤ z + 1 := by omega
      obtain ⟨q5, q6⟩ : z + 1 + x.e.c.length + x.e.k.length + 1 ≤ 9223372036854775807 ∧ -9223372036854775808 ≤ z + 1 + x.e.c.length + x.e.k.length + 1 := by omega
      obtain ⟨q7, q8⟩ : z + 1 + x.e.c.length + x.e.k.length + 1 + 1 ≤ 9223372036854775807 ∧ -9223372036854775808 ≤ z + 1 + x.e.c.length + x.e.k.length + 1 + 1 := by omega
      obtain ⟨q9, q10⟩ : z + 1 + x.e.c.length + x.e.k.length + 1 + 1 + x.s.length + 1 ≤ 9223372036854775807 ∧ -9223372036854775808 ≤ z + 1 + x.e.c.length + x.e.k.length + 1 + 1 + x.s.length + 1 := by omega
      go_wp2_with (go_at_call 27; refine call1.mono ?_)
      rintro e w2 ⟨rfl, hw2⟩
      have hS2 := hS1.go hB hw2
      clear hu0 hf0 hc1 call1 ok1 hw2
      obtain ⟨-, ⟨hc2, ok2⟩, -⟩ := hS2.par j x hx
      have call2 := markI_calls ok2 (z + 1 + x.e.c.length) (by omega) (by omega) (by omega)
      go_wp2_with (go_at_call 27; refine call2.mono ?_)
      rintro e w3 ⟨rfl, hw3⟩
      have hS3 := hS2.go hB hw3
      clear hc2 call2 ok2 hw3
      obtain ⟨⟨u3, hu3⟩, hf3⟩ := hS3.at hb (off := j * 7 + 3) (by omega)
      have hS4 := hS3.set (j * 7 + 3) (.int .i64 (z + 1 + x.e.c.length + x.e.k.length)) (fun i => by omega)
      obtain ⟨⟨u4, hu4⟩, hf4⟩ := hS4.at hb (off := j * 7 + 4) (by omega)
      have hS5 := hS4.set (j * 7 + 4) (.int .i64 (z + 1 + x.e.c.length + x.e.k.length + 1)) (fun i => by omega)
      obtain ⟨-, -, hc5, ok5⟩ := hS5.par j x hx
      have call3 := markI_calls ok5 (z + 1 + x.e.c.length + x.e.k.length + 1 + 1) (by omega) (by omega) (by omega)
      go_wp2_with (go_at_call 27; refine call3.mono ?_)
      rintro e w6 ⟨rfl, hw6⟩
      have hS6 := hS5.go hB hw6
      clear hu3 hf3 hu4 hf4 hc5 call3 ok5 hw6
      obtain ⟨⟨u6, hu6⟩, hf6⟩ := hS6.at hb (off := j * 7 + 6) (by omega)
      have hend := fun v => hS6.set (j * 7 + 6) v (fun i => by omega)
      go_wp2
      refine ⟨⟨j + 1, hlt, ?_, ?_, hend _⟩, ?_⟩
      · rw [hsn]
        congr 1
        omega
      · simp
      · simp [intOf]; omega
    · obtain rfl : j = ls.length := by omega
      rw [List.take_length] at hz
      clear hb
      go_wp2
      go_ret
      rw [hz]
      exact ⟨rfl, hS.shp⟩
def cs_markLinkS : AO → Int → (Int → Prop) → Prop := fun o k K => match o with
  | .arr 7 rows => ∃ ls : List LkD, rows = ls.map LkD.row ∧ ls.length ≤ 1048576 ∧ (∀ x ∈ ls, x.mid) ∧ 0 ≤ k ∧ k ≤ 1000000000000000 ∧ ∀ m, k ≤ m → m ≤ k + 3298539077632 → K m
  | _ => False
theorem sp_laws_markLinkS : SpFn Tryd.prog 13 cs_markLinkS := by
  refine ⟨fun c o v n K h hH ho hv hok => ?_, ⟨_, Tryd.func13, rfl, rfl⟩⟩
  unfold cs_markLinkS at h
  split at h
  case h_2 => exact h.elim
  case h_1 rows =>
    obtain ⟨ls, rfl, hl, hmid, h0, h1, h⟩ := h
    obtain ⟨vs, T, o1, o2, o3, o4, o5⟩ := ho
    have hlm : (ls.map LkD.row).length = ls.length := by simp
    cases hv with
    | own _ sz m cap hk hcap hroom =>
      rw [hH] at hk
      simp only [AO.info, Option.some.injEq, Prod.mk.injEq, hlm] at hk
      obtain ⟨rfl, rfl⟩ := hk
      have key : ∀ (i : Nat) x (j : Nat) p, ls[i]? = some x → j < 7 → x.row[j]? = some (.ints p) → c.w.cell? ⟨c.ρ 0, i * 7 + j, none⟩ = some (vs.getD (i * 7 + j) undef) ∧ SlOk (fun b => c.ok b ∧ ∃ vs T fr, c.w.heap[b]? = some (.cells vs T fr)) c.w (vs.getD (i * 7 + j) undef) p.length := by
        intro i x j p hx hj hrow
        have hil := (List.getElem?_eq_some_iff.1 hx).1
        have hlt : i * 7 + j < vs.size := by rw [hlm] at o2; omega
        have hv : vs[i * 7 + j]? = some (vs.getD (i * 7 + j) undef) := by simp [Array.getD, hlt]
        refine ⟨by rw [cell_of_row c.w (c.ρ 0) _ vs T (0, 0) o1]; exact hv, ?_⟩
        have hr := (o5 i x.row j (.ints p) _ (by rw [List.getElem?_map, hx]; rfl) hrow hv).1
        exact ints_ok hr fun b hb => (hok b hb).1
      refine (markL_calls (us := fun i j => vs.getD (i * 7 + j) undef) (fun hb => (hok _ hb.1).2 rfl) o1 (by rw [hlm] at o2; exact o2) (fun i x hx => ⟨key i x 1 _ hx (by decide) rfl, key i x 2 _ hx (by decide) rfl, key i x 5 _ hx (by decide) rfl⟩) hl hmid n h0 h1).mono ?_
      rintro e w' ⟨rfl, hS⟩
      have hle := mkLk_le hmid hl n ls.length
      rw [List.take_length] at hle
      exact ⟨_, rfl, h _ hle.1 hle.2, hS.os, hS.tape, hS.output, Nat.le_of_eq hS.size.symm, fun b _ hn hne => hS.same b fun hb => hb.elim hn hne⟩
end Go.Proofs.YtdljacpmoaeepaaDoor
