/-
Rows of joining members among a law's arguments.
No conditions.
-/
import Derived.Test.YtgfpcjomgmdapaaNxB
import Derived.Test.YtgfpcjomgmdapaaVcLaw
import Derived.Lib.SmallJoins
namespace Go.Proofs.Ytgfpcjomgmdapaa
open Go Go.Vc Go.ChangeShapes Go.WideShapes Go.ChangeAt Go.RowKit Go.Joins
set_option maxRecDepth 100000
theorem opj_int : Try.prog.cellsOf 3 = 1 := by kernel_rfl
theorem opj_Join : Try.prog.cellsOf 53 = 2 := by kernel_rfl
variable {H : Type} {enc : TypeId × Value → H}
theorem cells_join {W : World} {fuel : Nat} {cs : List Value} {y : DataW H × List MemPlace} (h : DataW.trod enc Try.prog W 0 (fun _ => true) true fuel 53 cs = some y) :
    ∃ p : Int × Int, cs = [.int .i64 p.1, .int .i64 p.2] := by
  obtain ⟨xs, m, rfl, rfl, hcl, hxl, hel⟩ := DataW.trod_struct Try.underlying53 h
  rw [opj_Join] at hcl
  match cs, hcl, xs, hxl with
  | [c0, c1], _, [y0, y1], _ =>
    have h0 : DataW.trod enc Try.prog W 0 (fun _ => true) true m 3 (([c0, c1].drop 0).take (Try.prog.cellsOf 3)) = some y0 := hel 0 _ rfl
    have h1 : DataW.trod enc Try.prog W 0 (fun _ => true) true m 3 (([c0, c1].drop 1).take (Try.prog.cellsOf 3)) = some y1 := hel 1 _ rfl
    simp only [opj_int, List.drop_zero, List.drop_succ_cons, List.take_succ_cons, List.take_zero] at h0 h1
    obtain ⟨n, e0, _, _⟩ := DataW.trod_int Try.underlying3 h0
    obtain ⟨r, e1, _, _⟩ := DataW.trod_int Try.underlying3 h1
    simp only [List.cons.injEq, and_true] at e0 e1
    subst e0 e1
    exact ⟨(n, r), rfl⟩
theorem add_none (b off k : Nat) : Addr.add ⟨b, off, none⟩ k = ⟨b, off + k, none⟩ := by
  unfold Addr.add
  split <;> simp_all
theorem rep_rows2 {W : World} {b off len cap : Nat} (f : Nat → Int × Int) (hb : b < W.heap.size) (hl : len ≤ cap)
    (hc : ∀ i, i < len → W.cell? ⟨b, off + i * 2, none⟩ = some (.int .i64 (f i).1) ∧ W.cell? ⟨b, off + i * 2 + 1, none⟩ = some (.int .i64 (f i).2)) :
    RepV (outC W) (.sl 2 (rows2 ((List.range len).map f))) (.slice (some ⟨b, off, none⟩) len cap) := by
  have hlen : (rows2 ((List.range len).map f)).length = len := by simp [rows2]
  have hrow : ∀ i e, (rows2 ((List.range len).map f))[i]? = some e → i < len ∧ e = [I (f i).1, I (f i).2] := by
    intro i e hi
    have hil : i < len := by have := (List.getElem?_eq_some_iff.1 hi).1; rw [hlen] at this; exact this
    refine ⟨hil, ?_⟩
    simp [rows2, hil] at hi
    exact hi.symm
  have := RepV.sl (c := outC W) 2 (rows2 ((List.range len).map f)) b off cap (fun i j => if j = 0 then .int .i64 (f i).1 else .int .i64 (f i).2) (.inl hb) (by rw [hlen]; exact hl)
    (fun i e hi => by rw [(hrow i e hi).2]; rfl)
    (fun i e j a hi hj => by
      obtain ⟨hil, rfl⟩ := hrow i e hi
      match j, hj with
      | 0, hj => cases hj; exact ⟨(hc i hil).1, rfl, rfl⟩
      | 1, hj => cases hj; exact ⟨(hc i hil).2, rfl, rfl⟩)
    (fun i e j a hi hj => by
      obtain ⟨hil, rfl⟩ := hrow i e hi
      match j, hj with
      | 0, hj => cases hj; exact .val _
      | 1, hj => cases hj; exact .val _)
  rw [hlen] at this
  exact this
theorem open_joins {W : World} {n : Nat} {v : Value} {y : DataW H × List MemPlace} (h : DataW.trod enc Try.prog W 0 (fun _ => true) true n 25 [v] = some y) (hp : ∀ p ∈ y.2, p.block < W.heap.size) :
    ∃ js : List (Int × Int), RepV (outC W) (.sl 2 (rows2 js)) v ∧ js.length ≤ 9223372036854775807 := by
  rcases DataW.trod_slice Try.underlying25 h with ⟨hcs, _⟩ | ⟨a, len, cap, elems, rest, m, _, hcs, hx, _, hl, hm, hel, hcell, _, _⟩
  · simp only [List.cons.injEq, and_true] at hcs
    subst hcs
    exact ⟨[], .sl0 2 _ _, by simp⟩
  simp only [List.cons.injEq, and_true] at hcs
  subst hcs
  rw [opj_Join] at hcell hx
  rw [hx] at hp
  have hm : cap ≤ 9223372036854775807 := hm
  by_cases h0 : len = 0
  · subst h0
    exact ⟨[], .sl0 2 _ _, by simp⟩
  have hb : a.block < W.heap.size := hp (.cell a.block (a.off + 0)) (List.mem_append_left _ (List.mem_map.2 ⟨0, by simp; omega, rfl⟩))
  have hex : ∀ i, ∃ p : Int × Int, i < len → W.cell? ((a.add (i * 2)).add 0) = some (.int .i64 p.1) ∧ W.cell? ((a.add (i * 2)).add 1) = some (.int .i64 p.2) := by
    intro i
    by_cases hi : i < len
    · have h1 := hcell i hi
      have h2 : elems[i]? = some elems[i] := List.getElem?_eq_getElem (by omega)
      rw [h2] at h1
      obtain ⟨cs, h3, h4⟩ := Option.bind_eq_some_iff.1 h1
      obtain ⟨p, rfl⟩ := cells_join h4
      obtain ⟨_, _, h5⟩ := World.cells?_some h3
      exact ⟨p, fun _ => ⟨h5 0 (by omega), h5 1 (by omega)⟩⟩
    · exact ⟨(0, 0), fun h => absurd h hi⟩
  have hf : ∃ f : Nat → Int × Int, ∀ i, i < len → W.cell? ((a.add (i * 2)).add 0) = some (.int .i64 (f i).1) ∧ W.cell? ((a.add (i * 2)).add 1) = some (.int .i64 (f i).2) :=
    ⟨fun i => Classical.choose (hex i), fun i => Classical.choose_spec (hex i)⟩
  obtain ⟨f, hf⟩ := hf
  obtain ⟨b, off, sp⟩ := a
  have hsp : sp = none := by
    have := (hf 0 (by omega)).1
    simp only [Addr.add, World.cell?] at this
    cases sp with
    | none => rfl
    | some x => split at this <;> simp at this
  subst hsp
  refine ⟨(List.range len).map f, rep_rows2 f hb hl fun i hi => ?_, by simp; omega⟩
  have := hf i hi
  rw [add_none, add_none, add_none, Nat.add_zero] at this
  exact this
end Go.Proofs.Ytgfpcjomgmdapaa
