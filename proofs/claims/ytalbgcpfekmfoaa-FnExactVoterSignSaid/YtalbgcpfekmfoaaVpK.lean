/-
A vote cast, by the program: the walk, a vote on a new subject.
No conditions.
-/
import Derived.Test.YtalbgcpfekmfoaaVpG
namespace Go.Proofs.Ytalbgcpfekmfoaa
open Go Go.Vc Go.RowKit
open Go.ChangeMaps (setBlock heap_setBlock_same)
set_option maxHeartbeats 1000000
set_option maxRecDepth 100000
theorem look_no2 {w : World} {b : Nat} {L : List VtD} {r a d : Int} (hb : w.heap[b]? = some (.map (entA L) L.length)) (hn : ∀ u ∈ L, sameS u ⟨r, a, d⟩ = false) :
    (Instr.lookup 60 (.map (some b)) (.agg #[.int .i64 r, .int .i64 a]) true).run Try.prog w = .ok (.tuple #[.int .i64 0, .bool false]) w := look_run (v := ⟨r, a, d⟩) hb hn
theorem At3.set {f : Int} {s : Value} {r a d : Int} {w W : World} (h : At3 f s r a d w W) {m : Nat} (hm : w.heap.size + 1 + 1 < m) (o1 o2 o3 : Obj) : At3 f s r a d w (setBlock ((W.alloc o1).alloc o2).drew m o3) :=
  h.next (B := w.heap.size + 1 + 1 + 1) (below_set ((((Below.refl _ W).alloc (by have := h.sz; omega) _).alloc (by have := h.sz; simp; omega) _).drew) hm) (by omega)
theorem tc_get : ∀ (l : List VtD) (i : Nat) (u : VtD), l[i]? = some u → (l.flatMap tcV)[i * 3]? = some (.int .i64 u.r) ∧ (l.flatMap tcV)[i * 3 + 1]? = some (.int .i64 u.a) ∧ (l.flatMap tcV)[i * 3 + 2]? = some (.int .i64 u.d)
  | [], i, u, h => by simp at h
  | x :: l, 0, u, h => by
    cases h
    exact ⟨rfl, rfl, rfl⟩
  | x :: l, i + 1, u, h => by
    have ih := tc_get l i u (by simpa using h)
    have e : ∀ j, ((x :: l).flatMap tcV)[(i + 1) * 3 + j]? = (l.flatMap tcV)[i * 3 + j]? := fun j => by
      rw [List.flatMap_cons, List.getElem?_append_right (by simp [tcV]; omega)]
      congr 1
      simp [tcV]
      omega
    exact ⟨(e 0).trans ih.1, (e 1).trans ih.2.1, (e 2).trans ih.2.2⟩
theorem tc_one (l : List VtD) : ∀ v ∈ l.flatMap tcV, v.oneCell' = true := by
  intro v hv
  obtain ⟨u, _, hu⟩ := List.mem_flatMap.1 hv
  simp [tcV] at hu
  rcases hu with rfl | rfl | rfl <;> rfl
theorem out_flat {B : Nat} {f : Int} {l : List VtD} {g : Nat} {w : World} (hg : B ≤ g) (hl : l.length ≤ 1000) (h : w.heap[g]? = some (.cells (l.flatMap tcV).toArray 34 (0, 0))) : OutV B f l (.agg #[.int .i64 f, .slice (some ⟨g, 0, none⟩) l.length l.length]) w :=
  ⟨g, l.length, _, _, rfl, Nat.le_refl _, by omega, hg, h, by rw [List.size_toArray, tc_len]; exact Nat.le_refl _, tc_one l, fun i u hu => by simpa using tc_get l i u hu⟩
theorem sign_low1 {f : Int} {l : List VtD} {r a d : Int} {ad : Option Addr} {cap : Nat} {w : World} (C : Callees f l r a d ad cap w) (hv : vrV f l = true) (htv : vtV ⟨r, a, d⟩ = true) (hag : (l.any fun u => agB u ⟨r, a, d⟩) = false) (hin : ∀ u ∈ l, sameS u ⟨r, a, d⟩ = false) (hrf : r < f) :
    Calls Try.prog 9 #[.agg #[.int .i64 f, .slice ad l.length cap], .agg #[.int .i64 r, .int .i64 a, .int .i64 d]] w fun e w' => ∃ x, e = .returned (.tuple #[x, .bool false]) ∧ OutV w.heap.size f l x w' ∧ Below w.heap.size w w' := by
  have h0 := At3.start f (.slice ad l.length cap) r a d w
  have hc := C.vv _ h0.b
  have hl := (vr_out hv).2.1
  have bso : Box (sortedT l ∧ ∀ u ∈ l, sameS u ⟨r, a, d⟩ = false) := ⟨(vr_out hv).2.2.1, hin⟩
  clear hin
  rw [hv] at hc
  have bs : Box (At3 f (.slice ad l.length cap) r a d w _) := ⟨h0⟩
  have bl : Box (l.length ≤ 40) := ⟨hl⟩
  clear h0 hv hl
  have hga := against_any
  go_enter Try.func9, Try.ntmps9
  go_wp2_with (first | (go_at_call 24; refine hc.mono ?_; rintro e w1 ⟨rfl, hb2⟩; have b1 : Box (At3 f (.slice ad l.length cap) r a d w w1) := ⟨bs.out.next hb2 bs.out.sz⟩; obtain ⟨x0, x1, v0, v1, v2, z0, z1, f0, f1⟩ := b1.out.cl; have ht := C.tt _ b1.out.b; rw [htv] at ht; clear hb2 hc) | (go_at_call 25; refine ht.mono ?_; rintro e w2 ⟨rfl, hb2⟩; have b2 : Box (At3 f (.slice ad l.length cap) r a d w w2) := ⟨b1.out.next hb2 b1.out.sz⟩; clear x0 x1 v0 v1 v2 z0 z1 f0 f1; obtain ⟨x0, x1, v0, v1, v2, z0, z1, f0, f1⟩ := b2.out.cl; clear hb2 ht) | go_in)
  have hct := C.aa (w2.alloc (.cells #[.int .i64 r, .int .i64 a, .int .i64 d] 34)).drew w2.heap.size ((b2.out.b.alloc b2.out.b.size _).drew) bl.out (Go.heap_alloc_new _ _)
  rw [hag] at hct
  have bct : Box (Calls Try.prog 26 #[.slice ad l.length cap, .func (.func 62) #[] #[.pointer (some ⟨w2.heap.size, 0, none⟩)]] (w2.alloc (.cells #[.int .i64 r, .int .i64 a, .int .i64 d] 34)).drew _) := ⟨hct⟩
  have bag : Box ((l.any fun u => agB u ⟨r, a, d⟩) = false) := ⟨hag⟩
  clear hct hag z0 z1 f0 f1
  generalize hh : w.heap.size = h at *
  go_region_held3 (fun w' => w'.cell? ⟨h, 0, none⟩ = some (.int .i64 f) ∧ w'.cell? ⟨h, 1, none⟩ = some (.slice ad l.length cap) ∧ w'.cell? ⟨h + 1, 0, none⟩ = some (.int .i64 r) ∧ w'.cell? ⟨h + 1, 1, none⟩ = some (.int .i64 a) ∧ w'.cell? ⟨h + 1, 2, none⟩ = some (.int .i64 d)) (refine ⟨?_, ?_, ?_, ?_, ?_⟩ <;> (try simp only [World.cell?_drew]) <;> (repeat (first | assumption | apply cell_a1))) (first | (go_at_call 27; refine (hga _ _ _ _).mono ?_; rintro e w' ⟨rfl, rfl⟩) | (go_at_call 26; refine bct.out.mono ?_; rintro e w3 ⟨rfl, hb3⟩; have b3 : Box (At3 f (.slice ad l.length cap) r a d w w3) := ⟨(b2.out.al _).next hb3 (b2.out.al _).sz⟩; have hq := b3.out.cl; rw [hh] at hq; obtain ⟨y0, y1, q0, q1, q2, -, -, -, -⟩ := hq; clear hb3))
  rename_i hHeld
  clear hHeld x0 x1 v0 v1 v2 y0 y1 q0 q1 q2
  subst hh
  obtain ⟨x0, x1, v0, v1, v2, z0, z1, f0, f1⟩ := b3.out.cl
  have hdd := C.dd _ b3.out.b bl.out (fun u v hu hv h => same_eq bso.out.1 hu hv h) (sorted_nodup bso.out.1)
  have hsu := subj_any r a d
  go_wp2_with (first | (go_at_call 29; refine hdd.mono ?_; rintro e w4 ⟨m, rfl, hms, hm, hb4⟩; have b4 : Box (At3 f (.slice ad l.length cap) r a d w w4) := ⟨b3.out.next hb4 b3.out.sz⟩; have bm : Box (w4.heap[m]? = some (.map (entA l) l.length) ∧ w3.heap.size ≤ m) := ⟨hm, hms⟩; clear hdd x0 x1 v0 v1 v2 z0 z1 f0 f1; obtain ⟨x0, x1, v0, v1, v2, z0, z1, f0, f1⟩ := b4.out.cl; clear hb4 hm hms) | (go_at_call 30; refine (hsu _).mono ?_; rintro e w5 ⟨rfl, hw5⟩; have b5 : Box (At3 f (.slice ad l.length cap) r a d w w5) := ⟨b4.out.al2 hw5⟩; have bm5 : Box (w5.heap[m]? = some (.map (entA l) l.length)) := ⟨keep2 bm.out.1 hw5⟩; have hlk := look_no2 bm5.out bso.out.2; clear hw5 hsu x0 x1 v0 v1 v2 z0 z1 f0 f1; obtain ⟨x0, x1, v0, v1, v2, z0, z1, f0, f1⟩ := b5.out.cl; have hcl := C.kk _ b5.out.b bl.out) | (go_at_call 28; refine hcl.mono ?_; rintro e w6 ⟨x, rfl, ho, hb6⟩; have b6 : Box (At3 f (.slice ad l.length cap) r a d w w6) := ⟨b5.out.next hb6 b5.out.sz⟩; clear hcl x0 x1 v0 v1 v2 z0 z1 f0 f1; obtain ⟨x0, x1, v0, v1, v2, z0, z1, f0, f1⟩ := b6.out.cl; have bo : Box (OutV w5.heap.size f l x w6) := ⟨ho⟩; obtain ⟨g, c4, xs, T, rfl, g1, g2, g3, g4, g5, g6, g7⟩ := ho.out; clear hb6 ho g1 g2 g3 g4 g5 g6 g7) | go_in)
  exact sign_end rfl rfl rfl (b6.out.put _ _) ⟨_, rfl, bo.out.put b5.out.sz, b6.out.put_below _ _⟩
theorem sign_low2 {f : Int} {l : List VtD} {r a d : Int} {ad : Option Addr} {cap : Nat} {w : World} (C : Callees f l r a d ad cap w) (hv : vrV f l = true) (htv : vtV ⟨r, a, d⟩ = true) (hag : (l.any fun u => agB u ⟨r, a, d⟩) = false) (hin : ∀ u ∈ l, sameS u ⟨r, a, d⟩ = false) (hrf : ¬ r < f) (hlm : (l.length : Int) = 40) :
    Calls Try.prog 9 #[.agg #[.int .i64 f, .slice ad l.length cap], .agg #[.int .i64 r, .int .i64 a, .int .i64 d]] w fun e w' => ∃ x, e = .returned (.tuple #[x, .bool false]) ∧ OutV w.heap.size f l x w' ∧ Below w.heap.size w w' := by
  have h0 := At3.start f (.slice ad l.length cap) r a d w
  have hc := C.vv _ h0.b
  have hl := (vr_out hv).2.1
  have bso : Box (sortedT l ∧ ∀ u ∈ l, sameS u ⟨r, a, d⟩ = false) := ⟨(vr_out hv).2.2.1, hin⟩
  clear hin
  rw [hv] at hc
  have bs : Box (At3 f (.slice ad l.length cap) r a d w _) := ⟨h0⟩
  have bl : Box (l.length ≤ 40) := ⟨hl⟩
  clear h0 hv hl
  have hga := against_any
  go_enter Try.func9, Try.ntmps9
  go_wp2_with (first | (go_at_call 24; refine hc.mono ?_; rintro e w1 ⟨rfl, hb2⟩; have b1 : Box (At3 f (.slice ad l.length cap) r a d w w1) := ⟨bs.out.next hb2 bs.out.sz⟩; obtain ⟨x0, x1, v0, v1, v2, z0, z1, f0, f1⟩ := b1.out.cl; have ht := C.tt _ b1.out.b; rw [htv] at ht; clear hb2 hc) | (go_at_call 25; refine ht.mono ?_; rintro e w2 ⟨rfl, hb2⟩; have b2 : Box (At3 f (.slice ad l.length cap) r a d w w2) := ⟨b1.out.next hb2 b1.out.sz⟩; clear x0 x1 v0 v1 v2 z0 z1 f0 f1; obtain ⟨x0, x1, v0, v1, v2, z0, z1, f0, f1⟩ := b2.out.cl; clear hb2 ht) | go_in)
  have hct := C.aa (w2.alloc (.cells #[.int .i64 r, .int .i64 a, .int .i64 d] 34)).drew w2.heap.size ((b2.out.b.alloc b2.out.b.size _).drew) bl.out (Go.heap_alloc_new _ _)
  rw [hag] at hct
  have bct : Box (Calls Try.prog 26 #[.slice ad l.length cap, .func (.func 62) #[] #[.pointer (some ⟨w2.heap.size, 0, none⟩)]] (w2.alloc (.cells #[.int .i64 r, .int .i64 a, .int .i64 d] 34)).drew _) := ⟨hct⟩
  have bag : Box ((l.any fun u => agB u ⟨r, a, d⟩) = false) := ⟨hag⟩
  clear hct hag z0 z1 f0 f1
  generalize hh : w.heap.size = h at *
  go_region_held3 (fun w' => w'.cell? ⟨h, 0, none⟩ = some (.int .i64 f) ∧ w'.cell? ⟨h, 1, none⟩ = some (.slice ad l.length cap) ∧ w'.cell? ⟨h + 1, 0, none⟩ = some (.int .i64 r) ∧ w'.cell? ⟨h + 1, 1, none⟩ = some (.int .i64 a) ∧ w'.cell? ⟨h + 1, 2, none⟩ = some (.int .i64 d)) (refine ⟨?_, ?_, ?_, ?_, ?_⟩ <;> (try simp only [World.cell?_drew]) <;> (repeat (first | assumption | apply cell_a1))) (first | (go_at_call 27; refine (hga _ _ _ _).mono ?_; rintro e w' ⟨rfl, rfl⟩) | (go_at_call 26; refine bct.out.mono ?_; rintro e w3 ⟨rfl, hb3⟩; have b3 : Box (At3 f (.slice ad l.length cap) r a d w w3) := ⟨(b2.out.al _).next hb3 (b2.out.al _).sz⟩; have hq := b3.out.cl; rw [hh] at hq; obtain ⟨y0, y1, q0, q1, q2, -, -, -, -⟩ := hq; clear hb3))
  rename_i hHeld
  clear hHeld x0 x1 v0 v1 v2 y0 y1 q0 q1 q2
  subst hh
  obtain ⟨x0, x1, v0, v1, v2, z0, z1, f0, f1⟩ := b3.out.cl
  have hdd := C.dd _ b3.out.b bl.out (fun u v hu hv h => same_eq bso.out.1 hu hv h) (sorted_nodup bso.out.1)
  have hsu := subj_any r a d
  go_wp2_with (first | (go_at_call 29; refine hdd.mono ?_; rintro e w4 ⟨m, rfl, hms, hm, hb4⟩; have b4 : Box (At3 f (.slice ad l.length cap) r a d w w4) := ⟨b3.out.next hb4 b3.out.sz⟩; have bm : Box (w4.heap[m]? = some (.map (entA l) l.length) ∧ w3.heap.size ≤ m) := ⟨hm, hms⟩; clear hdd x0 x1 v0 v1 v2 z0 z1 f0 f1; obtain ⟨x0, x1, v0, v1, v2, z0, z1, f0, f1⟩ := b4.out.cl; clear hb4 hm hms) | (go_at_call 30; refine (hsu _).mono ?_; rintro e w5 ⟨rfl, hw5⟩; have b5 : Box (At3 f (.slice ad l.length cap) r a d w w5) := ⟨b4.out.al2 hw5⟩; have bm5 : Box (w5.heap[m]? = some (.map (entA l) l.length)) := ⟨keep2 bm.out.1 hw5⟩; have hlk := look_no2 bm5.out bso.out.2; clear hw5 hsu x0 x1 v0 v1 v2 z0 z1 f0 f1; obtain ⟨x0, x1, v0, v1, v2, z0, z1, f0, f1⟩ := b5.out.cl; have hcl := C.kk _ b5.out.b bl.out) | (go_at_call 28; refine hcl.mono ?_; rintro e w6 ⟨x, rfl, ho, hb6⟩; have b6 : Box (At3 f (.slice ad l.length cap) r a d w w6) := ⟨b5.out.next hb6 b5.out.sz⟩; clear hcl x0 x1 v0 v1 v2 z0 z1 f0 f1; obtain ⟨x0, x1, v0, v1, v2, z0, z1, f0, f1⟩ := b6.out.cl; have bo : Box (OutV w5.heap.size f l x w6) := ⟨ho⟩; obtain ⟨g, c4, xs, T, rfl, g1, g2, g3, g4, g5, g6, g7⟩ := ho.out; clear hb6 ho g1 g2 g3 g4 g5 g6 g7) | go_in)
  exact sign_end rfl rfl rfl (b6.out.put _ _) ⟨_, rfl, bo.out.put b5.out.sz, b6.out.put_below _ _⟩
theorem sign_new {f : Int} {l : List VtD} {r a d : Int} {ad : Option Addr} {cap : Nat} {w : World} (C : Callees f l r a d ad cap w) (hv : vrV f l = true) (htv : vtV ⟨r, a, d⟩ = true) (hag : (l.any fun u => agB u ⟨r, a, d⟩) = false) (hin : ∀ u ∈ l, sameS u ⟨r, a, d⟩ = false) (hrf : ¬ r < f) (hlm : ¬ (l.length : Int) = 40) (hsort : SortsV) :
    Calls Try.prog 9 #[.agg #[.int .i64 f, .slice ad l.length cap], .agg #[.int .i64 r, .int .i64 a, .int .i64 d]] w fun e w' => ∃ x, e = .returned (.tuple #[x, .bool true]) ∧ OutV w.heap.size f (insT l ⟨r, a, d⟩) x w' ∧ Below w.heap.size w w' := by
  have h0 := At3.start f (.slice ad l.length cap) r a d w
  have hc := C.vv _ h0.b
  have hl := (vr_out hv).2.1
  have bso : Box (sortedT l ∧ ∀ u ∈ l, sameS u ⟨r, a, d⟩ = false) := ⟨(vr_out hv).2.2.1, hin⟩
  clear hin
  rw [hv] at hc
  have bs : Box (At3 f (.slice ad l.length cap) r a d w _) := ⟨h0⟩
  have bl : Box (l.length ≤ 40) := ⟨hl⟩
  clear h0 hv hl
  have hga := against_any
  go_enter Try.func9, Try.ntmps9
  go_wp2_with (first | (go_at_call 24; refine hc.mono ?_; rintro e w1 ⟨rfl, hb2⟩; have b1 : Box (At3 f (.slice ad l.length cap) r a d w w1) := ⟨bs.out.next hb2 bs.out.sz⟩; obtain ⟨x0, x1, v0, v1, v2, z0, z1, f0, f1⟩ := b1.out.cl; have ht := C.tt _ b1.out.b; rw [htv] at ht; clear hb2 hc) | (go_at_call 25; refine ht.mono ?_; rintro e w2 ⟨rfl, hb2⟩; have b2 : Box (At3 f (.slice ad l.length cap) r a d w w2) := ⟨b1.out.next hb2 b1.out.sz⟩; clear x0 x1 v0 v1 v2 z0 z1 f0 f1; obtain ⟨x0, x1, v0, v1, v2, z0, z1, f0, f1⟩ := b2.out.cl; clear hb2 ht) | go_in)
  have hct := C.aa (w2.alloc (.cells #[.int .i64 r, .int .i64 a, .int .i64 d] 34)).drew w2.heap.size ((b2.out.b.alloc b2.out.b.size _).drew) bl.out (Go.heap_alloc_new _ _)
  rw [hag] at hct
  have bct : Box (Calls Try.prog 26 #[.slice ad l.length cap, .func (.func 62) #[] #[.pointer (some ⟨w2.heap.size, 0, none⟩)]] (w2.alloc (.cells #[.int .i64 r, .int .i64 a, .int .i64 d] 34)).drew _) := ⟨hct⟩
  have bag : Box ((l.any fun u => agB u ⟨r, a, d⟩) = false) := ⟨hag⟩
  clear hct hag z0 z1 f0 f1
  generalize hh : w.heap.size = h at *
  go_region_held3 (fun w' => w'.cell? ⟨h, 0, none⟩ = some (.int .i64 f) ∧ w'.cell? ⟨h, 1, none⟩ = some (.slice ad l.length cap) ∧ w'.cell? ⟨h + 1, 0, none⟩ = some (.int .i64 r) ∧ w'.cell? ⟨h + 1, 1, none⟩ = some (.int .i64 a) ∧ w'.cell? ⟨h + 1, 2, none⟩ = some (.int .i64 d)) (refine ⟨?_, ?_, ?_, ?_, ?_⟩ <;> (try simp only [World.cell?_drew]) <;> (repeat (first | assumption | apply cell_a1))) (first | (go_at_call 27; refine (hga _ _ _ _).mono ?_; rintro e w' ⟨rfl, rfl⟩) | (go_at_call 26; refine bct.out.mono ?_; rintro e w3 ⟨rfl, hb3⟩; have b3 : Box (At3 f (.slice ad l.length cap) r a d w w3) := ⟨(b2.out.al _).next hb3 (b2.out.al _).sz⟩; have hq := b3.out.cl; rw [hh] at hq; obtain ⟨y0, y1, q0, q1, q2, -, -, -, -⟩ := hq; clear hb3))
  rename_i hHeld
  clear hHeld x0 x1 v0 v1 v2 y0 y1 q0 q1 q2
  subst hh
  obtain ⟨x0, x1, v0, v1, v2, z0, z1, f0, f1⟩ := b3.out.cl
  have hdd := C.dd _ b3.out.b bl.out (fun u v hu hv h => same_eq bso.out.1 hu hv h) (sorted_nodup bso.out.1)
  have hsu := subj_any r a d
  go_wp2_with (first | (go_at_call 29; refine hdd.mono ?_; rintro e w4 ⟨m, rfl, hms, hm, hb4⟩; have b4 : Box (At3 f (.slice ad l.length cap) r a d w w4) := ⟨b3.out.next hb4 b3.out.sz⟩; have bm : Box (w4.heap[m]? = some (.map (entA l) l.length) ∧ w3.heap.size ≤ m) := ⟨hm, hms⟩; clear hdd x0 x1 v0 v1 v2 z0 z1 f0 f1; obtain ⟨x0, x1, v0, v1, v2, z0, z1, f0, f1⟩ := b4.out.cl; clear hb4 hm hms) | (go_at_call 30; refine (hsu _).mono ?_; rintro e w5 ⟨rfl, hw5⟩; have b5 : Box (At3 f (.slice ad l.length cap) r a d w w5) := ⟨b4.out.al2 hw5⟩; have bm5 : Box (w5.heap[m]? = some (.map (entA l) l.length)) := ⟨keep2 bm.out.1 hw5⟩; have hlk := look_no2 bm5.out bso.out.2; clear hw5 hsu x0 x1 v0 v1 v2 z0 z1 f0 f1; obtain ⟨x0, x1, v0, v1, v2, z0, z1, f0, f1⟩ := b5.out.cl; have hcl := C.kk _ b5.out.b bl.out) | go_in)
  · exfalso
    have hno : ¬ (r < f ∨ ((l.length : Int) == 40) = true) := fun hx => by
      rcases hx with hx | hx
      · omega
      · exact hlm (by simpa using hx)
    exact hno (by assumption)
  have hms : w.heap.size + 1 + 1 < m := by
    have h1 := b3.out.sz
    have h2 := bm.out.2
    omega
  have bup : Box (∀ W, W.heap[m]? = some (.map (entA l) l.length) → (Instr.mapUpdate 60 (.map (some m)) (.agg #[.int .i64 r, .int .i64 a]) (.int .i64 d)).run Try.prog W = .ok () (setBlock W m (.map (entA (l ++ [VtD.mk r a d])) (l ++ [VtD.mk r a d]).length))) := ⟨fun W h => upd_run (v := ⟨r, a, d⟩) h bso.out.2⟩
  have hup := bup.out ((w5.alloc (.cells #[.int .i64 r, .int .i64 a, .int .i64 d] 34)).alloc (.cells #[.int .i64 r, .int .i64 a] 64)).drew (keep1 (keep1 bm5.out))
  have bsb : Box (∀ W o j, (setBlock W m o).cell? ⟨w.heap.size + 1, j, none⟩ = W.cell? ⟨w.heap.size + 1, j, none⟩) := ⟨fun W o j => World.cell?_of_block (show (W.heap.setIfInBounds m o)[w.heap.size + 1]? = _ by rw [Array.getElem?_setIfInBounds, if_neg (by omega)])⟩
  have bms : Box (w.heap.size + 1 + 1 < m) := ⟨hms⟩
  have bor : Box SortsV := ⟨hsort⟩
  clear hms hsort hrf hlm hcl hlk x0 x1 z0 z1 f0 f1
  have hsu := subj_any r a d
  generalize hh : w.heap.size = h at *
  go_region_held3 (fun w' => w'.cell? ⟨h + 1, 0, none⟩ = some (.int .i64 r) ∧ w'.cell? ⟨h + 1, 1, none⟩ = some (.int .i64 a) ∧ w'.cell? ⟨h + 1, 2, none⟩ = some (.int .i64 d)) (refine ⟨?_, ?_, ?_⟩ <;> (try simp only [World.cell?_drew, bsb.out]) <;> (repeat (first | assumption | apply cell_a1))) (first | (go_at_call 30; refine (hsu _).mono ?_; rintro e w' ⟨rfl, rfl⟩))
  rename_i hHeld
  clear hHeld v0 v1 v2 hsu hup bup bsb
  subst hh
  have q6 := b5.out.set bms.out (.cells #[.int .i64 r, .int .i64 a, .int .i64 d] 34) (.cells #[.int .i64 r, .int .i64 a] 64) (.map (entA (l ++ [VtD.mk r a d])) (l.length + 1))
  have qm : (setBlock ((w5.alloc (.cells #[.int .i64 r, .int .i64 a, .int .i64 d] 34)).alloc (.cells #[.int .i64 r, .int .i64 a] 64)).drew m (.map (entA (l ++ [VtD.mk r a d])) (l.length + 1))).heap[m]? = some (.map (entA (l ++ [VtD.mk r a d])) (l.length + 1)) := heap_setBlock_same (w := ((w5.alloc (.cells #[.int .i64 r, .int .i64 a, .int .i64 d] 34)).alloc (.cells #[.int .i64 r, .int .i64 a] 64)).drew) (keep1 (keep1 bm5.out)) _
  generalize setBlock ((w5.alloc (.cells #[.int .i64 r, .int .i64 a, .int .i64 d] 34)).alloc (.cells #[.int .i64 r, .int .i64 a] 64)).drew m (.map (entA (l ++ [VtD.mk r a d])) (l.length + 1)) = w6 at *
  have b6 : Box (At3 f (.slice ad l.length cap) r a d w w6) := ⟨q6⟩
  obtain ⟨x0, x1, v0, v1, v2, z0, z1, f0, f1⟩ := b6.out.cl
  have hvo := vot_any bor.out f m (l ++ [VtD.mk r a d]) w6 (by simpa using qm) (by have := bl.out; simp; omega)
  clear q6 qm
  go_wp2_with (first | (go_at_call 31; refine hvo.mono ?_; rintro e w7 ⟨g, ts, rfl, t1, t2, t3, t4, t5, hb7⟩; have b7 : Box (At3 f (.slice ad l.length cap) r a d w w7) := ⟨b6.out.next hb7 b6.out.sz⟩; have bt : Box ((ts.Pairwise fun x y => ¬ y.lt x) ∧ ts.length = (l ++ [VtD.mk r a d]).length ∧ (∀ u, u ∈ ts ↔ u ∈ l ++ [VtD.mk r a d])) := ⟨t1, t2, t3⟩; have bo : Box (w6.heap.size ≤ g ∧ w7.heap[g]? = some (.cells (ts.flatMap tcV).toArray 34 (0, 0))) := ⟨t4, t5⟩; clear t1 t2 t3 t4 t5 hvo hb7 x0 x1 v0 v1 v2 z0 z1 f0 f1; obtain ⟨x0, x1, v0, v1, v2, z0, z1, f0, f1⟩ := b7.out.cl) | go_in)
  have et := sort_ins bso.out.1 bso.out.2 bt.out.1 bt.out.2.1 bt.out.2.2
  subst et
  have hlt : (insT l ⟨r, a, d⟩).length ≤ 1000 := by
    have := bl.out
    rw [ins_lenT]
    omega
  exact sign_end rfl rfl rfl (b7.out.put _ _) ⟨_, rfl, (out_flat bo.out.1 hlt bo.out.2).put b6.out.sz, b7.out.put_below _ _⟩
end Go.Proofs.Ytalbgcpfekmfoaa
