/-
The voter with the votes of a map, by hand, over a law on the sort.
No conditions.
-/
import Derived.Test.YtalbgcpfekmfoaaVpN
import Derived.ArgAppend
namespace Go.Proofs.Ytalbgcpfekmfoaa
open Go Go.Vc Go.RowKit
open Go.ChangeMaps (setBlock heap_setBlock_same)
set_option maxHeartbeats 1000000
set_option maxRecDepth 100000
abbrev tcV (v : VtD) : List Value := [.int .i64 v.r, .int .i64 v.a, .int .i64 v.d]
theorem cell_three_new (w : World) (x y z : Value) (t : TypeId) : ∀ j u, [x, y, z][j]? = some u → (w.alloc (.cells #[x, y, z] t)).cell? ((⟨w.heap.size, 0, none⟩ : Addr).add j) = some u := by
  intro j u hj
  match j, hj with
  | 0, hj => simp at hj; subst hj; simp [Addr.add]
  | 1, hj => simp at hj; subst hj; simp [Addr.add]
  | 2, hj => simp at hj; subst hj; simp [Addr.add]
  | (j + 3), hj => simp at hj
theorem grown_set {w : World} {r : Nat} {o o' : Obj} (hr : w.heap[r]? = some o) : w.grownBy (setBlock w r o') (some r) := by
  have hl : r < w.heap.size := (Array.getElem?_eq_some_iff.1 hr).1
  refine ⟨rfl, rfl, rfl, by simp [setBlock], fun i hi hne => ?_⟩
  show (w.heap.setIfInBounds r o')[i]? = w.heap[i]?
  rw [Array.getElem?_setIfInBounds, if_neg (fun e => hne (by rw [e]))]
/-- One step of the range over a map. -/
theorem wpL_next {w : World} {ops : Array Oper} {rest : List Oper} {o : Oper} {a : Act} {Q : Exit → Act → World → Prop} (hg : o.guard = none) (it : Operand) (hop : o.op = Op.next it false) (b r : Nat) (L : List VtD) (seen : Array Nat)
    (hit : a.eval it = .pointer (some ⟨r, 0, none⟩)) (hb : w.heap[b]? = some (.map (entA L) L.length)) (hr : w.heap[r]? = some (.mapIter (some b) L.length seen L.length))
    (hDone : (∀ i, i < L.length → i ∈ seen.toList) → wpList Try.prog ops Q rest (a.put o.dst (.tuple #[.bool false])) w)
    (hMore : ∀ (i : Nat) (v : VtD) (w' : World), L[i]? = some v → i ∉ seen.toList → w.grownBy w' (some r) → w'.heap.size = w.heap.size → w'.heap[b]? = some (.map (entA L) L.length) → w'.heap[r]? = some (.mapIter (some b) L.length (seen.push i) L.length) →
      (Instr.entry (.pointer (some ⟨r, 0, none⟩))).run Try.prog w' = .ok (.tuple #[.agg #[.int .i64 v.r, .int .i64 v.a], .int .i64 v.d]) w' → wpList Try.prog ops Q rest (a.put o.dst (.tuple #[.bool true, .agg #[.int .i64 v.r, .int .i64 v.a], .int .i64 v.d])) w') :
    wpList Try.prog ops Q (o :: rest) a w := by
  refine wpList_plain hg fun K' hK' => ?_
  unfold Oper.wp
  rcases run_next_at (P := Try.prog) w o.type r b L.length L.length seen (entA L) L.length hr hb (born_lt L) (Nat.le_refl _) with ⟨h0, hrun⟩ | ⟨e, he, w1, hw1, hrun⟩
  · simp [execOp, hop, hit, hrun, Result.andThen]
    exact hK' _ _ (hDone (left_none h0))
  · obtain ⟨i, v, hv, rfl, hns⟩ := left_mem he
    have hne : b ≠ r := by
      intro e
      rw [e, hr] at hb
      cases hb
    have hr1 : w1.heap[r]? = some (.mapIter (some b) L.length seen L.length) := by rcases hw1 with rfl | rfl <;> exact hr
    have hb1 : w1.heap[b]? = some (.map (entA L) L.length) := by rcases hw1 with rfl | rfl <;> exact hb
    have hrl : r < w1.heap.size := (Array.getElem?_eq_some_iff.1 hr1).1
    have g2 : (setBlock w1 r (.mapIter (some b) L.length (seen.push (entV v i).born) L.length)).heap[b]? = some (.map (entA L) L.length) := by
      show (w1.heap.setIfInBounds r _)[b]? = _
      rw [Array.getElem?_setIfInBounds, if_neg (fun e => hne e.symm)]
      exact hb1
    have g3 : (setBlock w1 r (.mapIter (some b) L.length (seen.push (entV v i).born) L.length)).heap[r]? = some (.mapIter (some b) L.length (seen.push (entV v i).born) L.length) := by
      show (w1.heap.setIfInBounds r _)[r]? = _
      rw [Array.getElem?_setIfInBounds, if_pos rfl, if_pos hrl]
    have g4 := run_entry_at (P := Try.prog) _ r b L.length seen (entA L) L.length (entV v i) g3 g2 (by
      obtain ⟨q, _⟩ := List.mem_filter.1 (by unfold leftOf at he; simpa only [Array.toList_filter] using he)
      exact q) (born_nodup L)
    have g5 : w.grownBy (setBlock w1 r (.mapIter (some b) L.length (seen.push (entV v i).born) L.length)) (some r) := by
      rcases hw1 with rfl | rfl
      · exact grown_set hr
      · have := grown_set (w := w.drew) (o' := .mapIter (some b) L.length (seen.push (entV v i).born) L.length) hr1
        exact ⟨this.os, this.tape, this.output, this.size, this.block⟩
    have g6 : (setBlock w1 r (.mapIter (some b) L.length (seen.push (entV v i).born) L.length)).heap.size = w.heap.size := by
      show (w1.heap.setIfInBounds r _).size = _
      rw [Array.size_setIfInBounds]
      rcases hw1 with rfl | rfl <;> rfl
    simp [execOp, hop, hit, hrun, Result.andThen]
    exact hK' _ _ (hMore i v _ hv hns g5 g6 g2 g3 g4)
theorem cell_of {w : World} {b : Nat} {cs : Array Value} {t : TypeId} {fr : Nat × Nat} (h : w.heap[b]? = some (.cells cs t fr)) (j : Nat) : w.cell? ⟨b, j, none⟩ = cs[j]? := by simp [World.cell?, h]
theorem frz_of {w : World} {b : Nat} {cs : Array Value} {t : TypeId} (h : w.heap[b]? = some (.cells cs t (0, 0))) (j : Nat) : w.frozen? ⟨b, j, none⟩ = false := by simp [World.frozen?, h]
theorem grown_cell (w : World) (b j : Nat) (v : Value) : w.grownBy (w.setCell ⟨b, j, none⟩ v) (some b) :=
  ⟨rfl, rfl, rfl, by simp [World.setCell], fun k _ hne => Go.heap_setCell_other _ _ _ _ fun e => hne (by rw [e])⟩
theorem below_grown {B : Nat} {w w' w'' : World} {row : Option Nat} (h : Below B w w') (hg : w'.grownBy w'' row) (hB : B ≤ w'.heap.size) (hr : ∀ j, row = some j → B ≤ j) : Below B w w'' := h.grown hg hB hr
/-- Facts that a walk is not to take for rules. -/
structure Box (p : Prop) : Prop where
  out : p
/-- What a sort of votes in a row of their own leaves. -/
structure SortedAt (g cap : Nat) (ss ts : List VtD) (w w' : World) : Prop where
  perm : ts.Perm ss
  ord : ts.Pairwise fun x y => ¬ y.lt x
  row : ∃ cur, w'.heap[g]? = some (.cells cur 34 (0, 0)) ∧ cur.size = cap * 3 ∧ cur.toList.take (ts.length * 3) = ts.flatMap tcV
  grown : w.grownBy w' (some g)
def SortsV : Prop := ∀ (g cap : Nat) (ss : List VtD) (w : World) (cur : Array Value), w.heap[g]? = some (.cells cur 34 (0, 0)) → cur.size = cap * 3 → ss.length ≤ cap → cur.toList.take (ss.length * 3) = ss.flatMap tcV → ss.length < 1000 →
  Calls Try.prog 63 #[.slice (some ⟨g, 0, none⟩) ss.length cap, .func (.func 57) #[] #[]] w fun e w' => e = .returned (.tuple #[]) ∧ ∃ ts, SortedAt g cap ss ts w w'
@[go_sem] theorem build_vtr (f : Int) (p : Option Addr) (n c : Nat) (w : World) : (Instr.build 30 #[(0, .int .i64 f), (1, .slice p n c)]).run Try.prog w = .ok (.agg #[.int .i64 f, .slice p n c]) w := run_build w 30 _ _ (by kernel_rfl)
@[go_sem] theorem build_vote (r a d : Int) (w : World) : (Instr.build 34 #[(0, .int .i64 r), (1, .int .i64 a), (2, .int .i64 d)]).run Try.prog w = .ok (.agg #[.int .i64 r, .int .i64 a, .int .i64 d]) w := run_build w 34 _ _ (by kernel_rfl)
theorem tc_len (l : List VtD) : (l.flatMap tcV).length = l.length * 3 := by
  induction l with
  | nil => rfl
  | cons x l ih =>
    rw [List.flatMap_cons, List.length_append, ih]
    simp
    omega
theorem vt_info : (Try.prog.info? 34).map (fun i => (i.zero, i.size, i.bytes)) = some (some (.agg #[.int .i64 0, .int .i64 0, .int .i64 0]), 3, 24) := by kernel_rfl
/-- One vote more in a row with room: it stays where it is. -/
theorem wpL_app {w : World} {ops : Array Oper} {rest : List Oper} {o : Oper} {a : Act} {Q : Exit → Act → World → Prop} (hgd : o.guard = none) (s x : Operand)
    (ho : o.op = .call { callee := .builtin .append, args := #[s, x], argTypes := #[28, 28] }) (base g n cap : Nat) (xs : List Value)
    (hs : a.eval s = .slice (some ⟨g, 0, none⟩) n cap) (hown : w.ownsRow base 34 3 (.slice (some ⟨g, 0, none⟩) n cap) n xs) (hroom : n + 1 ≤ cap) (h40 : n ≤ 1000) (hbase : base ≤ w.heap.size)
    (ad : Addr) (c : Nat) (news : List Value) (hx : a.eval x = .slice (some ad) 1 c) (hl : news.length = 3) (hnews : ∀ j u, news[j]? = some u → w.cell? (ad.add j) = some u) (h1 : ∀ u ∈ news, u.oneCell' = true)
    (h : ∀ w', w'.ownsRow base 34 3 (.slice (some ⟨g, 0, none⟩) (n + 1) cap) (n + 1) (xs ++ news) → w.grownBy w' (some g) → wpList Try.prog ops Q rest (a.put o.dst (.slice (some ⟨g, 0, none⟩) (n + 1) cap)) w') : wpList Try.prog ops Q (o :: rest) a w := by
  obtain ⟨i0, hi, hz0, hz1, hz2⟩ := info_parts vt_info
  refine wpList_plain hgd fun K hK => ?_
  obtain ⟨v', w', hr, h2, h3, -, -⟩ := run_append_own_at (P := Try.prog) w base 28 o.type 34 i0 _ 3 24 Try.underlying28 hi hz0 hz1 hz2 rfl (by decide) (.slice (some ⟨g, 0, none⟩) n cap) n xs hown ad 1 c news (by rw [hl]) hnews h1 (by unfold maxLen; omega) (by omega) hbase
  rcases hown.2 with ⟨q, _⟩ | ⟨g', cap', cur, he, -, hg, -, -, k3, -⟩
  · cases q
  cases he
  have hr2 := run_append_room_cells (P := Try.prog) (w := w) 28 o.type 34 i0 Try.underlying28 hi g 0 n cap ad 1 c news (by rw [hl, hz1]) hnews h1 hroom
    (fun j hj => by rw [hz1, cell_of hg, Array.getElem?_eq_getElem (by rw [k3]; omega)]; rfl) (fun j hj => frz_of hg _)
  rw [hr] at hr2
  injection hr2 with e1 e2
  subst e1
  unfold Oper.wp execOp
  simp only [ho, resolve, invoke, builtin, Sem.run_bind, Sem.run_pure, Result.andThen_ok, List.map_toArray, List.map_cons, List.map_nil, hs, hx, hr]
  exact hK _ _ (h w' h2 h3)
theorem vot_any (hsort : SortsV) (f : Int) (b : Nat) (L : List VtD) (w : World) (hb : w.heap[b]? = some (.map (entA L) L.length)) (hl : L.length ≤ 41) :
    Calls Try.prog 31 #[.int .i64 f, .map (some b)] w fun e w' => ∃ (g : Nat) (ts : List VtD), e = .returned (.agg #[.int .i64 f, .slice (some ⟨g, 0, none⟩) ts.length ts.length]) ∧ (ts.Pairwise fun x y => ¬ y.lt x) ∧ ts.length = L.length ∧ (∀ u, u ∈ ts ↔ u ∈ L) ∧
      w.heap.size ≤ g ∧ w'.heap[g]? = some (.cells (ts.flatMap tcV).toArray 34 (0, 0)) ∧ Below w.heap.size w w' := by
  obtain ⟨i0, hi, hz0, hz1, hz2⟩ := info_parts vt_info
  have hbl : b < w.heap.size := (Array.getElem?_eq_some_iff.1 hb).1
  have hln := fun ty => len_run (w := w.alloc (.cells #[.int .i64 0, .slice none 0 0] 30)) (keep1 hb) ty
  go_enter Try.func31, Try.ntmps31
  go_wp2_with (first
    | (at_make; refine wpList_make_own _ rfl _ _ 28 rfl w.heap.size 34 i0 _ 3 Try.underlying28 hi hz0 hz1 _ _ _ L.length rfl rfl rfl (by rw [hz2]; omega) (by unfold maxLen; omega) (by simp) ?_; intro w1 hrow1 hg1; have hb1 : w1.heap[b]? = some (.map (entA L) L.length) := (hg1.block b (by simp; omega) (by simp)).trans (keep1 hb); have hrg := fun v => range_run (w := w1.alloc (.cells #[.int .i64 f, v] 30)) (keep1 hb1))
    | go_in)
  have hw1 : w.heap.size + 1 < w1.heap.size := by
    obtain ⟨-, ⟨q, -⟩ | ⟨g, cap, cur, q, -, q2, -⟩⟩ := hrow1
    · cases q
    · cases q
      have := (Array.getElem?_eq_some_iff.1 q2).1
      simpa using this
  go_loopw [16] (fun _ wr => ∃ (seen : Array Nat) (ss : List VtD) (v : Value), wr.heap[b]? = some (.map (entA L) L.length) ∧ wr.heap[w1.heap.size + 1]? = some (.mapIter (some b) L.length seen L.length) ∧
      wr.heap[w1.heap.size]? = some (.cells #[.int .i64 f, v] 30 (0, 0)) ∧ wr.heap[w.heap.size]? = some (.cells #[.int .i64 0, .slice none 0 0] 30 (0, 0)) ∧ (∃ g, v = .slice (some ⟨g, 0, none⟩) ss.length L.length) ∧ wr.ownsRow w.heap.size 34 3 v ss.length (ss.flatMap tcV) ∧ seen.toList.Nodup ∧ (∀ i ∈ seen.toList, i < L.length) ∧ (∀ u, u ∈ ss ↔ ∃ i ∈ seen.toList, L[i]? = some u) ∧ ss.length = seen.size ∧ Below w.heap.size w wr)
    (fun _ wr => L.length - (match wr.heap[w1.heap.size + 1]? with | some (.mapIter _ _ seen _) => seen.size | _ => 0))
  case atStart =>
    refine ⟨#[], [], _, keep1 (keep1 hb1), alloc_two _ _ _, keep1 (Go.heap_alloc_new _ _), keep1 (keep1 ((hg1.block _ (by simp) (by simp)).trans (Go.heap_alloc_new _ _))), ⟨_, rfl⟩, (by simpa using (hrow1.alloc _).alloc _), by simp, by simp, by simp, by simp, ?_⟩
    exact ((below_grown (((Below.refl _ _).alloc (Nat.le_refl _) _)) hg1 (by simp) (by simp)).alloc (by omega) _).alloc (by simp; omega) _
  case round =>
    obtain ⟨seen, ss, v, hbr, hir, hxr, hzr, hvn, hrow, hnd, hlt, hmem, hsl, hbel⟩ := hrel
    obtain ⟨g, rfl⟩ := hvn
    rcases hrow.2 with ⟨hnil, _⟩ | ⟨g', cap', cur, he, hbase, hg, k1, k2, k3, k4⟩
    · cases hnil
    cases he
    have hgx : g ≠ w1.heap.size := by
      rintro rfl
      rw [hxr] at hg
      cases hg
    have hgi : g ≠ w1.heap.size + 1 := by
      rintro rfl
      rw [hir] at hg
      cases hg
    have hgb : g ≠ b := by
      rintro rfl
      rw [hbr] at hg
      cases hg
    have hgz : g ≠ w.heap.size := by
      rintro rfl
      rw [hzr] at hg
      cases hg
    have hsl2 : ss.length ≤ L.length := by
      rw [hsl, ← Array.length_toList]
      have := hnd.length_le_of_subset (l₂ := List.range L.length) fun i hi => List.mem_range.2 (hlt i hi)
      simpa using this
    have hx0 := cell_of hxr 0
    have hx1 := cell_of hxr 1
    simp only [List.getElem?_toArray, List.getElem?_cons_zero, List.getElem?_cons_succ] at hx0 hx1
    have hs : Box (Calls Try.prog 63 #[.slice (some ⟨g, 0, none⟩) ss.length L.length, .func (.func 57) #[] #[]] wr fun e w' => e = .returned (.tuple #[]) ∧ ∃ ts, SortedAt g L.length ss ts wr w') := ⟨hsort g L.length ss wr cur hg k3 k1 k4 (by omega)⟩
    have bx : Box (wr.heap[w1.heap.size]? = some (.cells #[.int .i64 f, .slice (some ⟨g, 0, none⟩) ss.length L.length] 30 (0, 0)) ∧ wr.heap[w.heap.size]? = some (.cells #[.int .i64 0, .slice none 0 0] 30 (0, 0)) ∧ wr.heap[b]? = some (.map (entA L) L.length) ∧ wr.heap[w1.heap.size + 1]? = some (.mapIter (some b) L.length seen L.length) ∧ wr.heap[g]? = some (.cells cur 34 (0, 0))) := ⟨hxr, hzr, hbr, hir, hg⟩
    have by_ : Box ((g ≠ w1.heap.size ∧ g ≠ w1.heap.size + 1 ∧ g ≠ b ∧ g ≠ w.heap.size) ∧ w.heap.size ≤ g ∧ w.heap.size + 1 < w1.heap.size ∧ b < w.heap.size ∧ ss.length ≤ L.length ∧ L.length ≤ 41) := ⟨⟨hgx, hgi, hgb, hgz⟩, hbase, hw1, hbl, hsl2, hl⟩
    have bz : Box (wr.ownsRow w.heap.size 34 3 (.slice (some ⟨g, 0, none⟩) ss.length L.length) ss.length (ss.flatMap tcV) ∧ seen.toList.Nodup ∧ (∀ i ∈ seen.toList, i < L.length) ∧ (∀ u, u ∈ ss ↔ ∃ i ∈ seen.toList, L[i]? = some u) ∧ ss.length = seen.size ∧ Below w.heap.size w wr) := ⟨hrow, hnd, hlt, hmem, hsl, hbel⟩
    clear hgx hgi hgb hgz hsl2 hrow hnd hlt hmem hsl hbel k1 k2 k3 k4 hbase hg hxr hzr hrow1 hg1 hb1 hrg hln hb hbl hsort hw1
    go_wp2_with (first
      | (at_next; refine wpL_next rfl _ rfl b (w1.heap.size + 1) L seen rfl hbr hir ?_ ?_)
      | go_in)
    · intro hall
      have hs2 := hs.out
      have ball : Box (∀ i, i < L.length → i ∈ seen) := ⟨hall⟩
      clear hall hs hbr hir
      go_wp2_with (first
        | (go_at_call 63; refine hs2.mono ?_; rintro e w' ⟨rfl, ts, hS⟩; have bS : Box (SortedAt g L.length ss ts wr w') := ⟨hS⟩; have hxs := (hS.grown.block _ (Array.getElem?_eq_some_iff.1 bx.out.1).1 (fun e => by_.out.1.1 (Option.some.inj e).symm)).trans bx.out.1; have hzs := (hS.grown.block _ (Array.getElem?_eq_some_iff.1 bx.out.2.1).1 (fun e => by_.out.1.2.2.2 (Option.some.inj e).symm)).trans bx.out.2.1; have y0 := cell_of hxs 0; have y1 := cell_of hxs 1; have z0 := cell_of hzs 0; have z1 := cell_of hzs 1; have fz0 := frz_of hzs 0; have fz1 := frz_of hzs 1; simp only [List.getElem?_toArray, List.getElem?_cons_zero, List.getElem?_cons_succ] at y0 y1 z0 z1; clear hS hx0 hx1 hs2)
        | go_in)
      have q2 : ((w'.setCell ⟨w.heap.size, 0, none⟩ (.int .i64 f)).setCell ⟨w.heap.size, 1, none⟩ (.slice (some ⟨g, 0, none⟩) ss.length L.length)).heap[w.heap.size]? = some (.cells #[.int .i64 f, .slice (some ⟨g, 0, none⟩) ss.length L.length] 30 (0, 0)) :=
        Go.heap_setCell_same _ _ _ _ _ _ (Go.heap_setCell_same _ _ _ _ _ _ hzs)
      have hS := bS.out
      have hpl := hS.perm.length_eq
      obtain ⟨hrow, hnd, hlt, hmem, hsl, hbel⟩ := bz.out
      obtain ⟨⟨n1, n2, n3, n4⟩, n5, n6, n7, n8, n9⟩ := by_.out
      have hfull : ss.length = L.length := by
        have := (List.nodup_range (n := L.length)).length_le_of_subset (l₂ := seen.toList) fun i hi => by simpa using ball.out i (List.mem_range.1 hi)
        have h2 : L.length ≤ seen.size := by simpa using this
        have h3 : ss.length = seen.size := hsl
        have h4 : ss.length ≤ L.length := n8
        omega
      refine bodyPost_ret (results_cell_row rfl _ _ w.heap.size 30 _ (0, 0) _ rfl q2 Try.underlying30 rfl (by kernel_rfl)) rfl ⟨g, ts, by rw [hpl, hfull], hS.ord, by rw [hpl, hfull], fun u => ?_, n5, ?_, ?_⟩
      · rw [hS.perm.mem_iff, hmem]
        constructor
        · rintro ⟨i, _, hi⟩
          exact List.mem_of_getElem? hi
        · intro hu
          obtain ⟨i, hi⟩ := List.mem_iff_getElem?.1 hu
          exact ⟨i, by simpa using ball.out i (List.getElem?_eq_some_iff.1 hi).1, hi⟩
      · obtain ⟨cur', r1, r2, r3⟩ := hS.row
        rw [Go.heap_setCell_other _ _ _ _ n4, Go.heap_setCell_other _ _ _ _ n4, r1]
        rw [List.take_of_length_le (by rw [Array.length_toList, r2, hpl, hfull]; exact Nat.le_refl _)] at r3
        rw [← r3]
      · have e1 := below_grown hbel hS.grown hbel.size (fun j hj => by cases hj; exact n5)
        have e2 := below_grown e1 (grown_cell w' w.heap.size 0 (.int .i64 f)) e1.size (fun j hj => by cases hj; exact Nat.le_refl _)
        exact below_grown e2 (grown_cell _ w.heap.size 1 _) e2.size (fun j hj => by cases hj; exact Nat.le_refl _)
    · intro i v' w2 hvi hni hg2 hs2 hb2 hr2 hen
      have hx2 := (hg2.block _ (Array.getElem?_eq_some_iff.1 bx.out.1).1 (fun e => absurd (Option.some.inj e) (by omega))).trans bx.out.1
      have hz2 := (hg2.block _ (Array.getElem?_eq_some_iff.1 bx.out.2.1).1 (fun e => absurd (Option.some.inj e) (by have := by_.out.2.2.1; omega))).trans bx.out.2.1
      have hrow2 := bz.out.1.kept hg2 (Or.inr fun e => by_.out.1.2.1 (Option.some.inj e))
      have y1 : (w2.alloc (.cells #[.int .i64 v'.r, .int .i64 v'.a] 64)).cell? ⟨w1.heap.size, 1, none⟩ = _ := cell_of (keep1 hx2) 1
      simp only [List.getElem?_toArray, List.getElem?_cons_zero, List.getElem?_cons_succ] at y1
      have b2 : Box (L[i]? = some v' ∧ ¬ i ∈ seen ∧ wr.grownBy w2 (some (w1.heap.size + 1)) ∧ w2.heap.size = wr.heap.size ∧ w2.heap[b]? = some (.map (entA L) L.length) ∧ w2.heap[w1.heap.size + 1]? = some (.mapIter (some b) L.length (seen.push i) L.length) ∧ w2.heap[w1.heap.size]? = some (.cells #[.int .i64 f, .slice (some ⟨g, 0, none⟩) ss.length L.length] 30 (0, 0)) ∧ w2.heap[w.heap.size]? = some (.cells #[.int .i64 0, .slice none 0 0] 30 (0, 0))) := ⟨hvi, hni, hg2, hs2, hb2, hr2, hx2, hz2⟩
      have b3 : Box (w2.ownsRow w.heap.size 34 3 (.slice (some ⟨g, 0, none⟩) ss.length L.length) ss.length (ss.flatMap tcV)) := ⟨hrow2⟩
      clear hvi hni hg2 hs2 hb2 hr2 hx2 hz2 hrow2 hx0 hx1 hbr hir hs
      have hbs : w.heap.size ≤ w2.heap.size := by
        have := by_.out.2.2.1
        have := (Array.getElem?_eq_some_iff.1 b2.out.2.2.2.2.2.2.1).1
        omega
      have hrow3 : Box (((w2.alloc (.cells #[.int .i64 v'.r, .int .i64 v'.a] 64)).alloc (.cells #[.int .i64 v'.r, .int .i64 v'.a, .int .i64 v'.d] 34)).ownsRow w.heap.size 34 3 (.slice (some ⟨g, 0, none⟩) ss.length L.length) ss.length (ss.flatMap tcV)) := ⟨(b3.out.alloc _).alloc _⟩
      have hnw : Box (∀ j u, (tcV v')[j]? = some u → ((w2.alloc (.cells #[.int .i64 v'.r, .int .i64 v'.a] 64)).alloc (.cells #[.int .i64 v'.r, .int .i64 v'.a, .int .i64 v'.d] 34)).cell? ((⟨w2.heap.size + 1, 0, none⟩ : Addr).add j) = some u) := ⟨by
        have h := cell_three_new (w2.alloc (.cells #[.int .i64 v'.r, .int .i64 v'.a] 64)) (.int .i64 v'.r) (.int .i64 v'.a) (.int .i64 v'.d) 34
        rw [show (w2.alloc (.cells #[.int .i64 v'.r, .int .i64 v'.a] 64)).heap.size = w2.heap.size + 1 by simp] at h
        exact h⟩
      have hroom : Box (ss.length + 1 ≤ L.length) := ⟨by
        obtain ⟨p1, p2, p3, p4, p5, p6⟩ := bz.out
        obtain ⟨c1, c2, -⟩ := b2.out
        have hnd2 : (i :: seen.toList).Nodup := List.nodup_cons.2 ⟨by simpa using c2, p2⟩
        have := hnd2.length_le_of_subset (l₂ := List.range L.length) fun j hj => List.mem_range.2 (by
          rcases List.mem_cons.1 hj with rfl | hj
          · exact (List.getElem?_eq_some_iff.1 c1).1
          · exact p3 j hj)
        rw [List.length_cons, Array.length_toList, List.length_range] at this
        omega⟩
      have hlen : ss.length + 1 ≤ 42 := by
        have := by_.out.2.2.2.2
        omega
      go_wp2_with (first
        | (at_builtin; refine wpL_app rfl _ _ rfl w.heap.size g ss.length L.length _ rfl hrow3.out hroom.out (by omega) (by simp; omega) ⟨w2.heap.size + 1, 0, none⟩ 1 (tcV v') rfl rfl hnw.out (by simp [Value.oneCell']) ?_; intro w4 hown4 hg4; have hx4 := (hg4.block w1.heap.size (by have := (Array.getElem?_eq_some_iff.1 b2.out.2.2.2.2.2.2.1).1; simp; omega) (fun e => by_.out.1.1 (Option.some.inj e).symm)).trans (keep1 (keep1 b2.out.2.2.2.2.2.2.1)); have z1 := cell_of hx4 1; have f1 := frz_of hx4 1; simp only [List.getElem?_toArray, List.getElem?_cons_zero, List.getElem?_cons_succ] at z1; have b4 : Box (w4.ownsRow w.heap.size 34 3 (.slice (some ⟨g, 0, none⟩) (ss.length + 1) L.length) (ss.length + 1) (ss.flatMap tcV ++ tcV v') ∧ ((w2.alloc (.cells #[.int .i64 v'.r, .int .i64 v'.a] 64)).alloc (.cells #[.int .i64 v'.r, .int .i64 v'.a, .int .i64 v'.d] 34)).grownBy w4 (some g) ∧ w4.heap[w1.heap.size]? = some (.cells #[.int .i64 f, .slice (some ⟨g, 0, none⟩) ss.length L.length] 30 (0, 0))) := ⟨hown4, hg4, hx4⟩; clear hown4 hg4 hx4 y1)
        | go_in)
      obtain ⟨c1, c2, c3, c4, c5, c6, c7, c8⟩ := b2.out
      obtain ⟨e1, e2, e4⟩ := b4.out
      obtain ⟨⟨n1, n2, n3, n4⟩, n5, n6, n7, n8, n9⟩ := by_.out
      obtain ⟨p1, p2, p3, p4, p5, p6⟩ := bz.out
      have lift : ∀ (j : Nat) (o : Obj), w2.heap[j]? = some o → j ≠ g → j ≠ w1.heap.size → (w4.setCell ⟨w1.heap.size, 1, none⟩ (.slice (some ⟨g, 0, none⟩) (ss.length + 1) L.length)).heap[j]? = some o := fun j o h h1 h2 => by
        rw [Go.heap_setCell_other _ _ _ _ h2]
        exact (e2.block j (by have := (Array.getElem?_eq_some_iff.1 h).1; simp; omega) (fun e => h1 (Option.some.inj e))).trans (keep1 (keep1 h))
      have hil : i < L.length := (List.getElem?_eq_some_iff.1 c1).1
      have hnd2 : (seen.push i).toList.Nodup := by
        rw [Array.toList_push, List.nodup_append]
        refine ⟨p2, by simp, fun a ha b hb => ?_⟩
        rw [List.mem_singleton.1 hb]
        rintro rfl
        exact c2 (by simpa using ha)
      have hlt2 : ∀ j ∈ (seen.push i).toList, j < L.length := by
        intro j hj
        rw [Array.toList_push] at hj
        rcases List.mem_append.1 hj with hj | hj
        · exact p3 j hj
        · rw [List.mem_singleton.1 hj]
          exact hil
      have hsz2 : seen.size + 1 ≤ L.length := by
        have := hnd2.length_le_of_subset (l₂ := List.range L.length) fun j hj => List.mem_range.2 (hlt2 j hj)
        simpa using this
      have hit := lift _ _ c6 (fun e => n2 e.symm) (by omega)
      go_roundw
      case rel =>
        refine ⟨seen.push i, ss ++ [v'], _, lift _ _ c5 (fun e => n3 e.symm) (by omega), hit, Go.heap_setCell_same _ _ _ _ _ _ e4, lift _ _ c8 (fun e => n4 e.symm) (by omega), ⟨g, by simp⟩, ?_, hnd2, hlt2, fun u => ?_, by simp [p5], ?_⟩
        · have := e1.kept (grown_cell w4 w1.heap.size 1 (.slice (some ⟨g, 0, none⟩) (ss.length + 1) L.length)) (Or.inr fun e => n1 (Option.some.inj e))
          rw [List.flatMap_append, List.length_append]
          simpa using this
        · rw [List.mem_append, p4, Array.toList_push]
          constructor
          · rintro (⟨j, hj, hu⟩ | hu)
            · exact ⟨j, List.mem_append_left _ hj, hu⟩
            · rw [List.mem_singleton.1 hu]
              exact ⟨i, by simp, c1⟩
          · rintro ⟨j, hj, hu⟩
            rcases List.mem_append.1 hj with hj | hj
            · exact .inl ⟨j, hj, hu⟩
            · rw [List.mem_singleton.1 hj, c1] at hu
              cases hu
              exact .inr (by simp)
        · have b1 := below_grown p6 c3 p6.size (fun j hj => by cases hj; omega)
          have b2 := (b1.alloc b1.size (.cells #[.int .i64 v'.r, .int .i64 v'.a] 64)).alloc (by simp; omega) (.cells #[.int .i64 v'.r, .int .i64 v'.a, .int .i64 v'.d] 34)
          have b3 := below_grown b2 e2 b2.size (fun j hj => by cases hj; exact n5)
          exact below_grown b3 (grown_cell w4 w1.heap.size 1 _) b3.size (fun j hj => by cases hj; omega)
      case measure =>
        rw [hit, bx.out.2.2.2.1]
        simp
        omega
end Go.Proofs.Ytalbgcpfekmfoaa
