/-
Voters and votes among a law's arguments.
No conditions.
-/
import Derived.Test.YtalbgcpfekmfoaaVpP
import Derived.Test.YtalbgcpfekmfoaaVcMG
import Derived.Lib.SmallJoins
namespace Go.Proofs.Ytalbgcpfekmfoaa
open Go Go.Vc Go.ChangeShapes Go.WideShapes Go.ChangeAt Go.RowKit Go.Joins
set_option maxRecDepth 100000
theorem opt_int : Try.prog.cellsOf 3 = 1 := by kernel_rfl
theorem opt_Votes : Try.prog.cellsOf 22 = 1 := by kernel_rfl
theorem opt_Vote : Try.prog.cellsOf 26 = 3 := by kernel_rfl
theorem opt_Voter : Try.prog.cellsOf 24 = 2 := by kernel_rfl
variable {H : Type} {enc : TypeId × Value → H}
theorem cells_vote {W : World} {fuel : Nat} {cs : List Value} {y : DataW H × List MemPlace} (h : DataW.trod enc Try.prog W 0 (fun _ => true) true fuel 26 cs = some y) :
    ∃ p : VtD, cs = [.int .i64 p.r, .int .i64 p.a, .int .i64 p.d] := by
  obtain ⟨xs, m, rfl, rfl, hcl, hxl, hel⟩ := DataW.trod_struct Try.underlying26 h
  rw [opt_Vote] at hcl
  match cs, hcl, xs, hxl with
  | [c0, c1, c2], _, [y0, y1, y2], _ =>
    have h0 : DataW.trod enc Try.prog W 0 (fun _ => true) true m 3 (([c0, c1, c2].drop 0).take (Try.prog.cellsOf 3)) = some y0 := hel 0 _ rfl
    have h1 : DataW.trod enc Try.prog W 0 (fun _ => true) true m 3 (([c0, c1, c2].drop 1).take (Try.prog.cellsOf 3)) = some y1 := hel 1 _ rfl
    have h2 : DataW.trod enc Try.prog W 0 (fun _ => true) true m 3 (([c0, c1, c2].drop 2).take (Try.prog.cellsOf 3)) = some y2 := hel 2 _ rfl
    simp only [opt_int, List.drop_zero, List.drop_succ_cons, List.take_succ_cons, List.take_zero] at h0 h1 h2
    obtain ⟨n, e0, _, _⟩ := DataW.trod_int Try.underlying3 h0
    obtain ⟨r, e1, _, _⟩ := DataW.trod_int Try.underlying3 h1
    obtain ⟨z, e2, _, _⟩ := DataW.trod_int Try.underlying3 h2
    simp only [List.cons.injEq, and_true] at e0 e1 e2
    subst e0 e1 e2
    exact ⟨⟨n, r, z⟩, rfl⟩
theorem addr_none (b off k : Nat) : Addr.add ⟨b, off, none⟩ k = ⟨b, off + k, none⟩ := by
  unfold Addr.add
  split <;> simp_all
theorem rep_votes {W : World} {b off len cap : Nat} (f : Nat → VtD) (hb : b < W.heap.size) (hl : len ≤ cap)
    (hc : ∀ i, i < len → W.cell? ⟨b, off + i * 3, none⟩ = some (.int .i64 (f i).r) ∧ W.cell? ⟨b, off + i * 3 + 1, none⟩ = some (.int .i64 (f i).a) ∧ W.cell? ⟨b, off + i * 3 + 2, none⟩ = some (.int .i64 (f i).d)) :
    RepV (outC W) (.sl 3 (((List.range len).map f).map VtD.row)) (.slice (some ⟨b, off, none⟩) len cap) := by
  have hlen : (((List.range len).map f).map VtD.row).length = len := by simp
  have hrow : ∀ i e, (((List.range len).map f).map VtD.row)[i]? = some e → i < len ∧ e = [I (f i).r, I (f i).a, I (f i).d] := by
    intro i e hi
    have hil : i < len := by have := (List.getElem?_eq_some_iff.1 hi).1; rw [hlen] at this; exact this
    refine ⟨hil, ?_⟩
    simp [hil] at hi
    exact hi.symm
  have := RepV.sl (c := outC W) 3 (((List.range len).map f).map VtD.row) b off cap (fun i j => if j = 0 then .int .i64 (f i).r else if j = 1 then .int .i64 (f i).a else .int .i64 (f i).d) (.inl hb) (by rw [hlen]; exact hl)
    (fun i e hi => by rw [(hrow i e hi).2]; rfl)
    (fun i e j a hi hj => by
      obtain ⟨hil, rfl⟩ := hrow i e hi
      match j, hj with
      | 0, hj => cases hj; exact ⟨(hc i hil).1, rfl, rfl⟩
      | 1, hj => cases hj; exact ⟨(hc i hil).2.1, rfl, rfl⟩
      | 2, hj => cases hj; exact ⟨(hc i hil).2.2, rfl, rfl⟩)
    (fun i e j a hi hj => by
      obtain ⟨hil, rfl⟩ := hrow i e hi
      match j, hj with
      | 0, hj => cases hj; exact .val _
      | 1, hj => cases hj; exact .val _
      | 2, hj => cases hj; exact .val _)
  rw [hlen] at this
  exact this
theorem open_votes {W : World} {n : Nat} {v : Value} {y : DataW H × List MemPlace} (h : DataW.trod enc Try.prog W 0 (fun _ => true) true n 22 [v] = some y) (hp : ∀ p ∈ y.2, p.block < W.heap.size) :
    ∃ l : List VtD, RepV (outC W) (.sl 3 (l.map VtD.row)) v ∧ v.oneCell' = true ∧ l.length ≤ 9223372036854775807 := by
  rcases DataW.trod_slice Try.underlying22 h with ⟨hcs, _⟩ | ⟨a, len, cap, elems, rest, m, _, hcs, hx, _, hl, hm, hel, hcell, _, _⟩
  · simp only [List.cons.injEq, and_true] at hcs
    subst hcs
    exact ⟨[], .sl0 3 _ _, rfl, by simp⟩
  simp only [List.cons.injEq, and_true] at hcs
  subst hcs
  rw [opt_Vote] at hcell hx
  rw [hx] at hp
  have hm : cap ≤ 9223372036854775807 := hm
  by_cases h0 : len = 0
  · subst h0
    exact ⟨[], .sl0 3 _ _, rfl, by simp⟩
  have hb : a.block < W.heap.size := hp (.cell a.block (a.off + 0)) (List.mem_append_left _ (List.mem_map.2 ⟨0, by simp; omega, rfl⟩))
  have hex : ∀ i, ∃ p : VtD, i < len → W.cell? ((a.add (i * 3)).add 0) = some (.int .i64 p.r) ∧ W.cell? ((a.add (i * 3)).add 1) = some (.int .i64 p.a) ∧ W.cell? ((a.add (i * 3)).add 2) = some (.int .i64 p.d) := by
    intro i
    by_cases hi : i < len
    · have h1 := hcell i hi
      have h2 : elems[i]? = some elems[i] := List.getElem?_eq_getElem (by omega)
      rw [h2] at h1
      obtain ⟨cs, h3, h4⟩ := Option.bind_eq_some_iff.1 h1
      obtain ⟨p, rfl⟩ := cells_vote h4
      obtain ⟨_, _, h5⟩ := World.cells?_some h3
      exact ⟨p, fun _ => ⟨h5 0 (by omega), h5 1 (by omega), h5 2 (by omega)⟩⟩
    · exact ⟨⟨0, 0, 0⟩, fun h => absurd h hi⟩
  have hf : ∃ f : Nat → VtD, ∀ i, i < len → W.cell? ((a.add (i * 3)).add 0) = some (.int .i64 (f i).r) ∧ W.cell? ((a.add (i * 3)).add 1) = some (.int .i64 (f i).a) ∧ W.cell? ((a.add (i * 3)).add 2) = some (.int .i64 (f i).d) :=
    ⟨fun i => Classical.choose (hex i), fun i => Classical.choose_spec (hex i)⟩
  obtain ⟨f, hf⟩ := hf
  obtain ⟨b, off, sp⟩ := a
  have hsp : sp = none := by
    have := (hf 0 (by omega)).1
    simp only [Addr.add, World.cell?] at this
    cases sp with
    | none => rfl
    | some x => split at this <;> simp at this
  subst hsp
  refine ⟨(List.range len).map f, rep_votes f hb hl fun i hi => ?_, rfl, by simp; omega⟩
  have := hf i hi
  rw [addr_none, addr_none, addr_none, addr_none, Nat.add_zero] at this
  exact this
theorem cells_voter {W : World} {fuel : Nat} {cs : List Value} {y : DataW H × List MemPlace} (h : DataW.trod enc Try.prog W 0 (fun _ => true) true fuel 24 cs = some y) (hlt : ∀ x ∈ y.2, x.block < W.heap.size) :
    ∃ (f : Int) (l : List VtD), RepL (outC W) [I f, .sl 3 (l.map VtD.row)] cs ∧ l.length ≤ 9223372036854775807 := by
  obtain ⟨xs, m, rfl, rfl, hcl, hxl, hel⟩ := DataW.trod_struct Try.underlying24 h
  rw [opt_Voter] at hcl
  match cs, hcl, xs, hxl with
  | [c0, c1], _, [y0, y1], _ =>
    have h0 : DataW.trod enc Try.prog W 0 (fun _ => true) true m 3 (([c0, c1].drop 0).take (Try.prog.cellsOf 3)) = some y0 := hel 0 _ rfl
    have h1 : DataW.trod enc Try.prog W 0 (fun _ => true) true m 22 (([c0, c1].drop 1).take (Try.prog.cellsOf 22)) = some y1 := hel 1 _ rfl
    simp only [opt_int, opt_Votes, List.drop_zero, List.drop_succ_cons, List.take_succ_cons, List.take_zero] at h0 h1
    obtain ⟨n, e0, _, _⟩ := DataW.trod_int Try.underlying3 h0
    obtain ⟨l, rl, o1, ll⟩ := open_votes h1 (fun x hx => hlt x (by simp [hx]))
    simp only [List.cons.injEq, and_true] at e0
    subst e0
    exact ⟨n, l, rep_cons (.val _) rfl (rep_cons rl o1 .nil), ll⟩
theorem open_voter {W : World} {base : Nat} {v : Value} {d : DataW H} {p : List MemPlace} (hv : Value.okWide Try.prog W .any base 24 v) (h : DataW.Trod enc Try.prog W 0 (fun _ => true) true 24 v d p) (hlt : ∀ x ∈ p, x.block < W.heap.size) :
    ∃ (f : Int) (l : List VtD), RepV (outC W) (.agg [I f, .sl 3 (l.map VtD.row)]) v ∧ l.length ≤ 9223372036854775807 := by
  obtain ⟨cs, rfl, hsz⟩ := okWide_struct Try.underlying24 hv
  obtain ⟨fuel, hf⟩ := h
  obtain ⟨f, l, q1, q2⟩ := cells_voter hf hlt
  exact ⟨f, l, q1.agg, q2⟩
theorem open_vote {W : World} {base : Nat} {v : Value} {d : DataW H} {p : List MemPlace} (hv : Value.okWide Try.prog W .any base 26 v) (h : DataW.Trod enc Try.prog W 0 (fun _ => true) true 26 v d p) :
    ∃ u : VtD, RepV (outC W) (.agg [I u.r, I u.a, I u.d]) v := by
  obtain ⟨cs, rfl, hsz⟩ := okWide_struct Try.underlying26 hv
  obtain ⟨fuel, hf⟩ := h
  obtain ⟨u, e⟩ := cells_vote hf
  obtain ⟨cs⟩ := cs
  have e : cs = [.int .i64 u.r, .int .i64 u.a, .int .i64 u.d] := e
  subst e
  exact ⟨u, (rep_cons (.val _) rfl (rep_cons (.val _) rfl (rep_cons (.val _) rfl .nil))).agg⟩
end Go.Proofs.Ytalbgcpfekmfoaa
