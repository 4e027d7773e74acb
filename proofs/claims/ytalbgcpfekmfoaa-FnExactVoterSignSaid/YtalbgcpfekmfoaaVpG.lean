/-
A vote cast, by the program: the walk.
No conditions.
-/
import Derived.Test.YtalbgcpfekmfoaaVpF
import Derived.Test.YtalbgcpfekmfoaaVpI
import Derived.Test.YtalbgcpfekmfoaaVpJ
namespace Go.Proofs.Ytalbgcpfekmfoaa
open Go Go.Vc Go.RowKit
open Go.ChangeMaps (setBlock heap_setBlock_same)
set_option maxHeartbeats 1000000
set_option maxRecDepth 100000
/-- What the walk asks of the functions that it calls. -/
structure Callees (f : Int) (l : List VtD) (r a d : Int) (ad : Option Addr) (cap : Nat) (w : World) : Prop where
  vv : ∀ W, Below w.heap.size w W → Calls Try.prog 24 #[.agg #[.int .i64 f, .slice ad l.length cap]] W fun e w' => e = .returned (.bool (vrV f l)) ∧ Below W.heap.size W w'
  tt : ∀ W, Below w.heap.size w W → Calls Try.prog 25 #[.agg #[.int .i64 r, .int .i64 a, .int .i64 d]] W fun e w' => e = .returned (.bool (vtV ⟨r, a, d⟩)) ∧ Below W.heap.size W w'
  kk : ∀ W, Below w.heap.size w W → l.length ≤ 40 → Calls Try.prog 28 #[.agg #[.int .i64 f, .slice ad l.length cap]] W fun e w' => ∃ x, e = .returned x ∧ OutV W.heap.size f l x w' ∧ Below W.heap.size W w'
  aa : ∀ W p, Below w.heap.size w W → l.length ≤ 40 → W.heap[p]? = some (.cells #[.int .i64 r, .int .i64 a, .int .i64 d] 34 (0, 0)) → Calls Try.prog 26 #[.slice ad l.length cap, .func (.func 62) #[] #[.pointer (some ⟨p, 0, none⟩)]] W fun e w' => e = .returned (.bool (l.any fun u => agB u ⟨r, a, d⟩)) ∧ Below W.heap.size W w'
  dd : ∀ W, Below w.heap.size w W → l.length ≤ 40 → (∀ u v, u ∈ l → v ∈ l → sameS u v = true → u = v) → l.Nodup → Calls Try.prog 29 #[.agg #[.int .i64 f, .slice ad l.length cap]] W fun e w' => ∃ m, e = .returned (.map (some m)) ∧ W.heap.size ≤ m ∧ w'.heap[m]? = some (.map (entA l) l.length) ∧ Below W.heap.size W w'
/-- The three boxes of the call. -/
structure At3 (f : Int) (s : Value) (r a d : Int) (w W : World) : Prop where
  b : Below w.heap.size w W
  x : W.heap[w.heap.size]? = some (.cells #[.int .i64 f, s] 30 (0, 0))
  v : W.heap[w.heap.size + 1]? = some (.cells #[.int .i64 r, .int .i64 a, .int .i64 d] 34 (0, 0))
  z : W.heap[w.heap.size + 1 + 1]? = some (.cells #[.int .i64 0, .slice none 0 0] 30 (0, 0))
theorem At3.sz {f : Int} {s : Value} {r a d : Int} {w W : World} (h : At3 f s r a d w W) : w.heap.size + 1 + 1 < W.heap.size := (Array.getElem?_eq_some_iff.1 h.z).1
theorem At3.next {f : Int} {s : Value} {r a d : Int} {w W W' : World} (h : At3 f s r a d w W) {B : Nat} (hb : Below B W W') (hB : w.heap.size + 1 + 1 < B) : At3 f s r a d w W' :=
  ⟨h.b.trans (hb.mono (by omega)), (hb.block _ (by omega)).trans h.x, (hb.block _ (by omega)).trans h.v, (hb.block _ hB).trans h.z⟩
theorem At3.start (f : Int) (s : Value) (r a d : Int) (w : World) : At3 f s r a d w (((w.alloc (.cells #[.int .i64 f, s] 30)).alloc (.cells #[.int .i64 r, .int .i64 a, .int .i64 d] 34)).alloc (.cells #[.int .i64 0, .slice none 0 0] 30)) :=
  ⟨(((Below.refl _ _).alloc (Nat.le_refl _) _).alloc (by simp) _).alloc (by simp; omega) _, keep1 (keep1 (Go.heap_alloc_new _ _)), keep1 (alloc_two _ _ _), by
    have h := heap_alloc_new ((w.alloc (.cells #[.int .i64 f, s] 30)).alloc (.cells #[.int .i64 r, .int .i64 a, .int .i64 d] 34)) (.cells #[.int .i64 0, .slice none 0 0] 30)
    have e : ((w.alloc (.cells #[.int .i64 f, s] 30)).alloc (.cells #[.int .i64 r, .int .i64 a, .int .i64 d] 34)).heap.size = w.heap.size + 1 + 1 := by simp
    rw [e] at h
    exact h⟩
structure Cl7 (f : Int) (s : Value) (r a d : Int) (h : Nat) (W : World) : Prop where
  x0 : W.cell? ⟨h, 0, none⟩ = some (.int .i64 f)
  x1 : W.cell? ⟨h, 1, none⟩ = some s
  v0 : W.cell? ⟨h + 1, 0, none⟩ = some (.int .i64 r)
  v1 : W.cell? ⟨h + 1, 1, none⟩ = some (.int .i64 a)
  v2 : W.cell? ⟨h + 1, 2, none⟩ = some (.int .i64 d)
  z0 : W.cell? ⟨h + 1 + 1, 0, none⟩ = some (.int .i64 0)
  z1 : W.cell? ⟨h + 1 + 1, 1, none⟩ = some (.slice none 0 0)
  f0 : W.frozen? ⟨h + 1 + 1, 0, none⟩ = false
  f1 : W.frozen? ⟨h + 1 + 1, 1, none⟩ = false
theorem At3.cl {f : Int} {s : Value} {r a d : Int} {w W : World} (h : At3 f s r a d w W) : Cl7 f s r a d w.heap.size W :=
  ⟨cell_of h.x 0, cell_of h.x 1, cell_of h.v 0, cell_of h.v 1, cell_of h.v 2, cell_of h.z 0, cell_of h.z 1, frz_of h.z 0, frz_of h.z 1⟩
theorem sign_end {R : Ending → World → Prop} {a : Act} {w : World} {g : Nat} {x y : Value} {bb : Bool} (hd : a.defers = []) (hp : a.tmps.getD 4 undef = .pointer (some ⟨g, 0, none⟩)) (hb : a.tmps.getD 5 undef = .bool bb) (hg : w.heap[g]? = some (.cells #[x, y] 30 (0, 0)))
    (hR : R (.returned (.tuple #[.agg #[x, y], .bool bb])) w) : bodyPost Try.prog Try.f9 R .ret a w := by
  refine bodyPost_ret ?_ hd hR
  rw [results_cell_tmp rfl, hp, hb]
  have e : (asAddr (.pointer (some ⟨g, 0, none⟩))).run Try.prog w = .ok ⟨g, 0, none⟩ w := rfl
  rw [e]
  simp only [Result.andThen]
  rw [run_loadVar_row w g 30 30 #[x, y] (0, 0) _ hg Try.underlying30 rfl (by kernel_rfl)]
theorem At3.put {f : Int} {s : Value} {r a d : Int} {w W : World} (h : At3 f s r a d w W) (x y : Value) : ((W.setCell ⟨w.heap.size + 1 + 1, 0, none⟩ x).setCell ⟨w.heap.size + 1 + 1, 1, none⟩ y).heap[w.heap.size + 1 + 1]? = some (.cells #[x, y] 30 (0, 0)) :=
  Go.heap_setCell_same _ _ _ _ _ _ (Go.heap_setCell_same _ _ _ _ _ _ h.z)
theorem At3.put_below {f : Int} {s : Value} {r a d : Int} {w W : World} (h : At3 f s r a d w W) (x y : Value) : Below w.heap.size w ((W.setCell ⟨w.heap.size + 1 + 1, 0, none⟩ x).setCell ⟨w.heap.size + 1 + 1, 1, none⟩ y) :=
  (h.b.setCell (by show _ ≤ w.heap.size + 1 + 1; omega) _).setCell (by show _ ≤ w.heap.size + 1 + 1; omega) _
theorem At3.al {f : Int} {s : Value} {r a d : Int} {w W : World} (h : At3 f s r a d w W) (o : Obj) : At3 f s r a d w (W.alloc o).drew :=
  h.next (((Below.refl W.heap.size W).alloc (Nat.le_refl _) o).drew) h.sz
theorem OutV.put {f : Int} {l : List VtD} {x y z : Value} {B : Nat} {w W : World} (h : OutV B f l x W) (hB : w.heap.size + 1 + 1 < B) : OutV w.heap.size f l x ((W.setCell ⟨w.heap.size + 1 + 1, 0, none⟩ y).setCell ⟨w.heap.size + 1 + 1, 1, none⟩ z) := by
  obtain ⟨g, cap, xs, T, e, h1, h2, h3, h4, h5⟩ := h.out
  have hne : g ≠ w.heap.size + 1 + 1 := by omega
  exact ⟨g, cap, xs, T, e, h1, h2, by omega, by rw [Go.heap_setCell_other _ _ _ _ hne, Go.heap_setCell_other _ _ _ _ hne]; exact h4, h5⟩
theorem sign_bad {f : Int} {l : List VtD} {r a d : Int} {ad : Option Addr} {cap : Nat} {w : World} (C : Callees f l r a d ad cap w) (hv : vrV f l = false) :
    Calls Try.prog 9 #[.agg #[.int .i64 f, .slice ad l.length cap], .agg #[.int .i64 r, .int .i64 a, .int .i64 d]] w fun e w' => e = .returned (.tuple #[.agg #[.int .i64 0, .slice none 0 0], .bool false]) ∧ Below w.heap.size w w' := by
  have h0 := At3.start f (.slice ad l.length cap) r a d w
  have hc := C.vv _ h0.b
  rw [hv] at hc
  have bs : Box (At3 f (.slice ad l.length cap) r a d w _) := ⟨h0⟩
  clear h0 hv
  go_enter Try.func9, Try.ntmps9
  go_wp2_with (first | (go_at_call 24; refine hc.mono ?_; rintro e w' ⟨rfl, hb2⟩; have b1 : Box (At3 f (.slice ad l.length cap) r a d w w') := ⟨bs.out.next hb2 bs.out.sz⟩; obtain ⟨x0, x1, v0, v1, v2, z0, z1, f0, f1⟩ := b1.out.cl; clear hb2) | go_in)
  exact sign_end rfl rfl rfl (b1.out.put _ _) ⟨rfl, b1.out.put_below _ _⟩
theorem sign_bad2 {f : Int} {l : List VtD} {r a d : Int} {ad : Option Addr} {cap : Nat} {w : World} (C : Callees f l r a d ad cap w) (hv : vrV f l = true) (htv : vtV ⟨r, a, d⟩ = false) :
    Calls Try.prog 9 #[.agg #[.int .i64 f, .slice ad l.length cap], .agg #[.int .i64 r, .int .i64 a, .int .i64 d]] w fun e w' => e = .returned (.tuple #[.agg #[.int .i64 0, .slice none 0 0], .bool false]) ∧ Below w.heap.size w w' := by
  have h0 := At3.start f (.slice ad l.length cap) r a d w
  have hc := C.vv _ h0.b
  rw [hv] at hc
  have bs : Box (At3 f (.slice ad l.length cap) r a d w _) := ⟨h0⟩
  clear h0 hv
  go_enter Try.func9, Try.ntmps9
  go_wp2_with (first | (go_at_call 24; refine hc.mono ?_; rintro e w1 ⟨rfl, hb2⟩; have b1 : Box (At3 f (.slice ad l.length cap) r a d w w1) := ⟨bs.out.next hb2 bs.out.sz⟩; obtain ⟨x0, x1, v0, v1, v2, z0, z1, f0, f1⟩ := b1.out.cl; have ht := C.tt _ b1.out.b; rw [htv] at ht; clear hb2 hc) | (go_at_call 25; refine ht.mono ?_; rintro e w2 ⟨rfl, hb2⟩; have b2 : Box (At3 f (.slice ad l.length cap) r a d w w2) := ⟨b1.out.next hb2 b1.out.sz⟩; clear x0 x1 v0 v1 v2 z0 z1 f0 f1; obtain ⟨x0, x1, v0, v1, v2, z0, z1, f0, f1⟩ := b2.out.cl; clear hb2 ht) | go_in)
  exact sign_end rfl rfl rfl (b2.out.put _ _) ⟨rfl, b2.out.put_below _ _⟩
theorem sign_contra {f : Int} {l : List VtD} {r a d : Int} {ad : Option Addr} {cap : Nat} {w : World} (C : Callees f l r a d ad cap w) (hv : vrV f l = true) (htv : vtV ⟨r, a, d⟩ = true) (hag : (l.any fun u => agB u ⟨r, a, d⟩) = true) :
    Calls Try.prog 9 #[.agg #[.int .i64 f, .slice ad l.length cap], .agg #[.int .i64 r, .int .i64 a, .int .i64 d]] w fun e w' => ∃ x, e = .returned (.tuple #[x, .bool false]) ∧ OutV w.heap.size f l x w' ∧ Below w.heap.size w w' := by
  have h0 := At3.start f (.slice ad l.length cap) r a d w
  have hc := C.vv _ h0.b
  have hl := (vr_out hv).2.1
  rw [hv] at hc
  have bs : Box (At3 f (.slice ad l.length cap) r a d w _) := ⟨h0⟩
  have bl : Box (l.length ≤ 40) := ⟨hl⟩
  clear h0 hv hl
  have hga := against_any
  go_enter Try.func9, Try.ntmps9
  go_wp2_with (first | (go_at_call 24; refine hc.mono ?_; rintro e w1 ⟨rfl, hb2⟩; have b1 : Box (At3 f (.slice ad l.length cap) r a d w w1) := ⟨bs.out.next hb2 bs.out.sz⟩; obtain ⟨x0, x1, v0, v1, v2, z0, z1, f0, f1⟩ := b1.out.cl; have ht := C.tt _ b1.out.b; rw [htv] at ht; clear hb2 hc) | (go_at_call 25; refine ht.mono ?_; rintro e w2 ⟨rfl, hb2⟩; have b2 : Box (At3 f (.slice ad l.length cap) r a d w w2) := ⟨b1.out.next hb2 b1.out.sz⟩; clear x0 x1 v0 v1 v2 z0 z1 f0 f1; obtain ⟨x0, x1, v0, v1, v2, z0, z1, f0, f1⟩ := b2.out.cl; clear hb2 ht) | go_in)
  have hct := C.aa (w2.alloc (.cells #[.int .i64 r, .int .i64 a, .int .i64 d] 34)).drew w2.heap.size ((b2.out.b.alloc b2.out.b.size _).drew) bl.out (Go.heap_alloc_new _ _)
  rw [hag] at hct
  have bct : Box (Calls Try.prog 26 #[.slice ad l.length cap, .func (.func 62) #[] #[.pointer (some ⟨w2.heap.size, 0, none⟩)]] (w2.alloc (.cells #[.int .i64 r, .int .i64 a, .int .i64 d] 34)).drew _) := ⟨hct⟩
  have bag : Box ((l.any fun u => agB u ⟨r, a, d⟩) = true) := ⟨hag⟩
  clear hct hag z0 z1 f0 f1
  generalize hh : w.heap.size = h at *
  go_region_held3 (fun w' => w'.cell? ⟨h, 0, none⟩ = some (.int .i64 f) ∧ w'.cell? ⟨h, 1, none⟩ = some (.slice ad l.length cap) ∧ w'.cell? ⟨h + 1, 0, none⟩ = some (.int .i64 r) ∧ w'.cell? ⟨h + 1, 1, none⟩ = some (.int .i64 a) ∧ w'.cell? ⟨h + 1, 2, none⟩ = some (.int .i64 d)) (refine ⟨?_, ?_, ?_, ?_, ?_⟩ <;> (try simp only [World.cell?_drew]) <;> (repeat (first | assumption | apply cell_a1))) (first | (go_at_call 27; refine (hga _ _ _ _).mono ?_; rintro e w' ⟨rfl, rfl⟩) | (go_at_call 26; refine bct.out.mono ?_; rintro e w3 ⟨rfl, hb3⟩; have b3 : Box (At3 f (.slice ad l.length cap) r a d w w3) := ⟨(b2.out.al _).next hb3 (b2.out.al _).sz⟩; have hq := b3.out.cl; rw [hh] at hq; obtain ⟨y0, y1, q0, q1, q2, -, -, -, -⟩ := hq; clear hb3))
  rename_i hHeld
  clear hHeld x0 x1 v0 v1 v2 y0 y1 q0 q1 q2
  subst hh
  obtain ⟨x0, x1, v0, v1, v2, z0, z1, f0, f1⟩ := b3.out.cl
  have hcl := C.kk _ b3.out.b bl.out
  go_wp2_with (first | (go_at_call 28; refine hcl.mono ?_; rintro e w4 ⟨x, rfl, ho, hb4⟩; have b4 : Box (At3 f (.slice ad l.length cap) r a d w w4) := ⟨b3.out.next hb4 b3.out.sz⟩; clear hcl x0 x1 v0 v1 v2 z0 z1 f0 f1; obtain ⟨x0, x1, v0, v1, v2, z0, z1, f0, f1⟩ := b4.out.cl; have bo : Box (OutV w3.heap.size f l x w4) := ⟨ho⟩; obtain ⟨g, c4, xs, T, rfl, g1, g2, g3, g4, g5, g6, g7⟩ := ho.out; clear hb4 ho g1 g2 g3 g4 g5 g6 g7) | go_in)
  exact sign_end rfl rfl rfl (b4.out.put _ _) ⟨_, rfl, bo.out.put b3.out.sz, b4.out.put_below _ _⟩
theorem At3.al2 {f : Int} {s : Value} {r a d : Int} {w W W' : World} (h : At3 f s r a d w W) {o o' : Obj} (e : W' = (W.alloc o).alloc o') : At3 f s r a d w W' := by
  subst e
  exact h.next (((Below.refl W.heap.size W).alloc (Nat.le_refl _) o).alloc (by simp) o') h.sz
theorem keep2 {w w' : World} {o o1 o2 : Obj} {m : Nat} (h : w.heap[m]? = some o) (e : w' = (w.alloc o1).alloc o2) : w'.heap[m]? = some o := by
  subst e
  exact keep1 (keep1 h)
theorem look_found2 {w : World} {b : Nat} {L : List VtD} {r a d : Int} (hb : w.heap[b]? = some (.map (entA L) L.length)) (hn : ∃ u ∈ L, sameS u ⟨r, a, d⟩ = true) :
    ∃ x : Int, (Instr.lookup 60 (.map (some b)) (.agg #[.int .i64 r, .int .i64 a]) true).run Try.prog w = .ok (.tuple #[.int .i64 x, .bool true]) w := look_found (v := ⟨r, a, d⟩) hb hn
theorem sign_voted {f : Int} {l : List VtD} {r a d : Int} {ad : Option Addr} {cap : Nat} {w : World} (C : Callees f l r a d ad cap w) (hv : vrV f l = true) (htv : vtV ⟨r, a, d⟩ = true) (hag : (l.any fun u => agB u ⟨r, a, d⟩) = false) (hin : ∃ u ∈ l, sameS u ⟨r, a, d⟩ = true) :
    Calls Try.prog 9 #[.agg #[.int .i64 f, .slice ad l.length cap], .agg #[.int .i64 r, .int .i64 a, .int .i64 d]] w fun e w' => ∃ x, e = .returned (.tuple #[x, .bool true]) ∧ OutV w.heap.size f l x w' ∧ Below w.heap.size w w' := by
  have h0 := At3.start f (.slice ad l.length cap) r a d w
  have hc := C.vv _ h0.b
  have hl := (vr_out hv).2.1
  have bso : Box (sortedT l ∧ ∃ u ∈ l, sameS u ⟨r, a, d⟩ = true) := ⟨(vr_out hv).2.2.1, hin⟩
  clear hin
  rw [hv] at hc
  have bs : Box (At3 f (.slice ad l.length cap) r a d w _) := ⟨h0⟩
  have bl : Box (l.length ≤ 40) := ⟨hl⟩
  clear h0 hv hl
  have hga := against_any
  go_enter Try.func9, Try.ntmps9
  go_wp2_with (first | (go_at_call 24; refine hc.mono ?_; rintro e w1 ⟨rfl, hb2⟩; have b1 : Box (At3 f (.slice ad l.length cap) r a d w w1) := ⟨bs.out.next hb2 bs.out.sz⟩; obtain ⟨x0, x1, v0, v1, v2, z0, z1, f0, f1⟩ := b1.out.cl; have ht := C.tt _ b1.out.b; rw [htv] at ht; clear hb2 hc) | (go_at_call 25; refine ht.mono ?_; rintro e w2 ⟨rfl, hb2⟩; have b2 : Box (At3 f (.slice ad l.length cap) r a d w w2) := ⟨b1.out.next hb2 b1.out.sz⟩; clear x0 x1 v0 v1 v2 z0 z1 f0 f1; obtain ⟨x0, x1, v0, v1, v2, z0, z1, f0, f1⟩ := b2.out.cl; clear hb2 ht) | go_in)
  have hct := C.aa (w2.alloc (.cells #[.int .i64 r, .int .i64 a, .int .i64 d] 34)).drew w2.heap.size ((b2.out.b.alloc b2.out.b.size _).drew) bl.out (Go.heap_alloc_new _ _)
  rw [hag] at hct
  have bct : Box (Calls Try.prog 26 #[.slice ad l.length cap, .func (.func 62) #[] #[.pointer (some ⟨w2.heap.size, 0, none⟩)]] (w2.alloc (.cells #[.int .i64 r, .int .i64 a, .int .i64 d] 34)).drew _) := ⟨hct⟩
  have bag : Box ((l.any fun u => agB u ⟨r, a, d⟩) = false) := ⟨hag⟩
  clear hct hag z0 z1 f0 f1
  generalize hh : w.heap.size = h at *
  go_region_held3 (fun w' => w'.cell? ⟨h, 0, none⟩ = some (.int .i64 f) ∧ w'.cell? ⟨h, 1, none⟩ = some (.slice ad l.length cap) ∧ w'.cell? ⟨h + 1, 0, none⟩ = some (.int .i64 r) ∧ w'.cell? ⟨h + 1, 1, none⟩ = some (.int .i64 a) ∧ w'.cell? ⟨h + 1, 2, none⟩ = some (.int .i64 d)) (refine ⟨?_, ?_, ?_, ?_, ?_⟩ <;> (try simp only [World.cell?_drew]) <;> (repeat (first | assumption | apply cell_a1))) (first | (go_at_call 27; refine (hga _ _ _ _).mono ?_; rintro e w' ⟨rfl, rfl⟩) | (go_at_call 26; refine bct.out.mono ?_; rintro e w3 ⟨rfl, hb3⟩; have b3 : Box (At3 f (.slice ad l.length cap) r a d w w3) := ⟨(b2.out.al _).next hb3 (b2.out.al _).sz⟩; have hq := b3.out.cl; rw [hh] at hq; obtain ⟨y0, y1, q0, q1, q2, -, -, -, -⟩ := hq; clear hb3))
  rename_i hHeld
  clear hHeld x0 x1 v0 v1 v2 y0 y1 q0 q1 q2
  subst hh
  obtain ⟨x0, x1, v0, v1, v2, z0, z1, f0, f1⟩ := b3.out.cl
  have hdd := C.dd _ b3.out.b bl.out (fun u v hu hv h => same_eq bso.out.1 hu hv h) (sorted_nodup bso.out.1)
  have hsu := subj_any r a d
  go_wp2_with (first | (go_at_call 29; refine hdd.mono ?_; rintro e w4 ⟨m, rfl, hms, hm, hb4⟩; have b4 : Box (At3 f (.slice ad l.length cap) r a d w w4) := ⟨b3.out.next hb4 b3.out.sz⟩; have bm : Box (w4.heap[m]? = some (.map (entA l) l.length) ∧ w3.heap.size ≤ m) := ⟨hm, hms⟩; clear hdd x0 x1 v0 v1 v2 z0 z1 f0 f1; obtain ⟨x0, x1, v0, v1, v2, z0, z1, f0, f1⟩ := b4.out.cl; clear hb4 hm hms) | (go_at_call 30; refine (hsu _).mono ?_; rintro e w5 ⟨rfl, hw5⟩; have b5 : Box (At3 f (.slice ad l.length cap) r a d w w5) := ⟨b4.out.al2 hw5⟩; have bm5 : Box (w5.heap[m]? = some (.map (entA l) l.length)) := ⟨keep2 bm.out.1 hw5⟩; obtain ⟨dx, hlk⟩ := look_found2 bm5.out bso.out.2; clear hw5 hsu x0 x1 v0 v1 v2 z0 z1 f0 f1; obtain ⟨x0, x1, v0, v1, v2, z0, z1, f0, f1⟩ := b5.out.cl; have hcl := C.kk _ b5.out.b bl.out) | (go_at_call 28; refine hcl.mono ?_; rintro e w6 ⟨x, rfl, ho, hb6⟩; have b6 : Box (At3 f (.slice ad l.length cap) r a d w w6) := ⟨b5.out.next hb6 b5.out.sz⟩; clear hcl x0 x1 v0 v1 v2 z0 z1 f0 f1; obtain ⟨x0, x1, v0, v1, v2, z0, z1, f0, f1⟩ := b6.out.cl; have bo : Box (OutV w5.heap.size f l x w6) := ⟨ho⟩; obtain ⟨g, c4, xs, T, rfl, g1, g2, g3, g4, g5, g6, g7⟩ := ho.out; clear hb6 ho g1 g2 g3 g4 g5 g6 g7) | go_in)
  exact sign_end rfl rfl rfl (b6.out.put _ _) ⟨_, rfl, bo.out.put b5.out.sz, b6.out.put_below _ _⟩
end Go.Proofs.Ytalbgcpfekmfoaa
