/-
How far a reader comes, by the program: the error of 'follow' looked at by errors.As.
No conditions.
-/
import Derived.Test.YtlhbdhccddadaaaGreatDoorAsC
import Derived.Test.YtlhbdhccddadaaaGreatDoorFlA
namespace Go.Proofs.YtlhbdhccddadaaaGreatDoor
open Go Go.Vc Go.RowKit
set_option maxRecDepth 100000
set_option maxHeartbeats 4000000
def hasEt (Fs : List Fam) : Prop := pinOf Fs 0 = some [.val etHdl]
theorem et_app {Fs nF : List Fam} (h : hasEt Fs) : hasEt (Fs ++ nF) := pin_app h
theorem et_of {E : Entry} {H : Nat → AO} {Fs : List Fam} {w : World} {ρ : Nat → Nat} {A : FA} (h : SatW E H Fs w ρ A) (ht : hasEt Fs) : w.cell? ⟨0, 0, none⟩ = some etHdl := by
  obtain ⟨f, fam, hf, hp, h0⟩ := pinOf_out ht
  have hr := h.fam f fam hf
  obtain ⟨h1, h2⟩ := hr.2.2 0 hp
  obtain ⟨hok, vf, hv⟩ := hr.1 0 _ h0
  obtain ⟨c1, -, -, c2⟩ := hv 0 _ rfl
  have h1 : A.at_ f 0 = 0 := h1
  have c1 : w.cell? ⟨A.at_ f 0, 0, none⟩ = some (vf 0) := c1
  rw [h1] at c1
  rw [c1]
  revert c2
  generalize vf 0 = z
  intro c2
  cases c2
  rfl
/-- The error that 'follow' hands back, as a value. -/
structure ErrIs (x : AV) (v : Value) : Prop where
  out : ∀ (c : Ctx) u, RepV c x u → u = v
theorem err_nil : ErrIs (.val .nilIface) .nilIface := ⟨fun c u h => by cases h; rfl⟩
theorem err_unt : ErrIs (.iface 53 (.agg [])) (.iface 53 (.agg #[])) := ⟨fun c u h => by
  cases h with
  | iface t x v hp h =>
    cases h with
    | agg cs vs hl h1 h =>
      obtain rfl : vs = [] := List.eq_nil_of_length_eq_zero (by simpa using hl)
      rfl⟩
theorem err_rej (k : Int) : ErrIs (.iface 57 (.agg [I k])) (.iface 57 (.agg #[.int .i64 k])) := ⟨fun c u h => by
  cases h with
  | iface t x v hp h =>
    cases h with
    | agg cs vs hl h1 h =>
      obtain ⟨a, rfl⟩ : ∃ a, vs = [a] := by
        rcases vs with _ | ⟨a, _ | ⟨b, t⟩⟩ <;> simp at hl
        exact ⟨a, rfl⟩
      have h2 := h 0 _ a rfl rfl
      cases h2
      rfl⟩
def IntIs (a : AV) : Prop := ∀ (c : Ctx) u, RepV c a u → ∃ z, u = .int .i64 z
def SlIs (a : AV) : Prop := ∀ (c : Ctx) u, RepV c a u → ∃ p n k, u = .slice p n k
theorem int_is (z : Int) : IntIs (I z) := fun c u h => by cases h; exact ⟨z, rfl⟩
theorem sl_is0 : SlIs (.val (.slice none 0 0)) := fun c u h => by cases h; exact ⟨_, _, _, rfl⟩
theorem sl_is (l : List Int) : SlIs (.ints l) := fun c u h => by
  obtain ⟨a, cap, rfl, _⟩ := h.ints_slice
  exact ⟨_, _, _, rfl⟩
theorem follow_calls {E : Entry} {Fs : List Fam} {n r : Int} {c k : List Int} {rows : List (List AV)} {x : AV} {ev : Value} (hx : ErrIs x ev) (hsat : SatW E (listH []) Fs E.w0 E.ρ0 E.A0)
    (hc : c_impl_follow.C [.agg [I n, .ints c, .ints k, I r], .sl 7 rows] [] Fs fun q _ _ => ∃ a0 a1 a2 a3, q = .tup [.agg [a0, a1, a2, a3], x] ∧ IntIs a0 ∧ SlIs a1 ∧ SlIs a2 ∧ IntIs a3)
    {v0 v1 : Value} (h0 : RepV (ctxOf E (listH []) E.w0 E.ρ0 E.A0) (.agg [I n, .ints c, .ints k, I r]) v0) (h1 : RepV (ctxOf E (listH []) E.w0 E.ρ0 E.A0) (.sl 7 rows) v1) {w : World} (hb : Below E.w0.heap.size E.w0 w) :
    Calls Tryz.prog 23 #[v0, v1] w fun e w' => ∃ y0 p1 n1 k1 p2 n2 k2 y3, e = .returned (.tuple #[.agg #[.int .i64 y0, .slice p1 n1 k1, .slice p2 n2 k2, .int .i64 y3], ev]) ∧ Below w.heap.size w w' := by
  have hs := satW_below hsat hb
  have kp : Vc.Keeps (ctxOf E (listH []) E.w0 E.ρ0 E.A0) (ctxOf E (listH []) w E.ρ0 E.A0) := by
    refine ⟨fun b hb' => ?_, fun b hb' => ?_, fun b hb' => hb', fun b hb' => ?_, ⟨Nat.le_refl _, fun _ _ => rfl⟩⟩
    · rcases hb' with hb' | ⟨h1, h2, _⟩
      · exact .inl hb'
      · exact absurd h2 (by omega)
    · exact hb.block b (hsat.ok_lt hb')
    · exact hb.block b (hsat.zB b hb').1
  have hs2 := callee_sat (S := ⟨fun _ => .any, listH [], Fs⟩) (ρc := []) (vs := []) (fx := false) hs (by simp) (by simp) (by simp)
  have kp2 := callee_keeps (E := E) (S := ⟨fun _ => .any, listH [], Fs⟩) (w := w) (ρ := E.ρ0) (A := E.A0) (ρc := []) (vs := []) (fx := false)
  have g0 := (h0.pure_move kp rfl).pure_move kp2 rfl
  have g1 := (h1.pure_move kp rfl).pure_move kp2 rfl
  refine (k_impl_follow (calleeE E ⟨fun _ => .any, listH [], Fs⟩ w E.ρ0 E.A0 [] [] false) [v0, v1] _ [] Fs _ hc rfl rfl hs2 (fun i a v ha hv => ?_) (fun h => by cases h)).mono ?_
  · match i, ha, hv with
    | 0, ha, hv => cases ha; cases hv; exact g0
    | 1, ha, hv => cases ha; cases hv; exact g1
    | i + 2, ha, hv => simp at ha
  · rintro e w' ⟨v, q, hs', nF, ρ, A, rfl, ⟨a0, a1, a2, a3, rfl, i0, i1, i2, i3⟩, hsat', hr, _⟩
    cases hr with
    | tup cs vs hl hn h =>
      obtain ⟨u, z, rfl⟩ : ∃ u z, vs = [u, z] := by
        rcases vs with _ | ⟨u, _ | ⟨z, _ | ⟨y, t⟩⟩⟩ <;> simp at hl
        exact ⟨u, z, rfl⟩
      have q0 := h 0 _ u rfl rfl
      have q1 := hx.out _ _ (h 1 _ z rfl rfl)
      subst q1
      cases q0 with
      | agg cs2 vs2 hl2 hh2 hr2 =>
        obtain ⟨y0, y1, y2, y3, rfl⟩ : ∃ y0 y1 y2 y3, vs2 = [y0, y1, y2, y3] := by
          rcases vs2 with _ | ⟨y0, _ | ⟨y1, _ | ⟨y2, _ | ⟨y3, _ | ⟨y4, t⟩⟩⟩⟩⟩ <;> simp at hl2
          exact ⟨y0, y1, y2, y3, rfl⟩
        obtain ⟨z0, rfl⟩ := i0 _ _ (hr2 0 _ y0 rfl rfl)
        obtain ⟨p1, n1, k1, rfl⟩ := i1 _ _ (hr2 1 _ y1 rfl rfl)
        obtain ⟨p2, n2, k2, rfl⟩ := i2 _ _ (hr2 2 _ y2 rfl rfl)
        obtain ⟨z3, rfl⟩ := i3 _ _ (hr2 3 _ y3 rfl rfl)
        exact ⟨_, _, _, _, _, _, _, _, rfl, hsat'.os, hsat'.tape, hsat'.output, hsat'.size, fun b hb' => hsat'.frame b hb' fun i hi => absurd hi (by simp [calleeE])⟩
theorem asW_below {P : Nat} {t : Addr} {w : World} : Below w.heap.size w (asW P t w) :=
  (((Below.refl _ w).alloc (Nat.le_refl _) _).alloc (by simp) _).alloc (by simp; omega) _
theorem as_hitU2 (t : Addr) (w : World) (hg : w.cell? ⟨0, 0, none⟩ = some etHdl) :
    Calls Tryz.prog 24 #[.iface 53 (.agg #[]), .iface 55 (.pointer (some t))] w fun ev w' => ev = .returned (.bool true) ∧ Below w.heap.size w w' := by
  refine (as_hitU t w hg).mono ?_
  rintro e w' ⟨rfl, rfl⟩
  exact ⟨rfl, asW_below.alloc asW_below.size _⟩
theorem as_missR2 (k : Int) (t : Addr) (w : World) (hg : w.cell? ⟨0, 0, none⟩ = some etHdl) :
    Calls Tryz.prog 24 #[.iface 57 (.agg #[.int .i64 k]), .iface 55 (.pointer (some t))] w fun ev w' => ev = .returned (.bool false) ∧ Below w.heap.size w w' := by
  refine (as_missR k t w hg).mono ?_
  rintro e w' ⟨rfl, rfl⟩
  exact ⟨rfl, asW_below⟩
theorem as_hitR2 {B : Nat} (k : Int) (t : Addr) (old : Value) (w : World) (hg : w.cell? ⟨0, 0, none⟩ = some etHdl) (ht0 : w.cell? t = some old) (hf0 : w.frozen? t = false) (hB : B ≤ w.heap.size) (hBt : B ≤ t.block) :
    Calls Tryz.prog 24 #[.iface 57 (.agg #[.int .i64 k]), .iface 58 (.pointer (some t))] w fun ev w' => ev = .returned (.bool true) ∧ w'.cell? t = some (.int .i64 k) ∧ Below B w w' := by
  refine (as_hitR k t old w hg ht0 hf0).mono ?_
  rintro e w' ⟨rfl, rfl⟩
  have hb : Below w.heap.size w ((asW 58 t w).alloc (.cells #[.int .i64 k] 57)) := asW_below.alloc asW_below.size _
  have htl : t.block < w.heap.size := by
    rcases Nat.lt_or_ge t.block w.heap.size with h | h
    · exact h
    · simp [World.cell?, Array.getElem?_eq_none h] at ht0
  exact ⟨rfl, World.cell?_setCell_same' _ _ _ (by rw [hb.cell htl, ht0]; rfl), (hb.mono hB).setCell hBt _⟩
theorem lr_acc {n r : Int} {v1 v2 : Value} {a : Option Addr} {m cap : Nat} {w : World}
    (hF : Calls Tryz.prog 23 #[.agg #[.int .i64 n, v1, v2, .int .i64 r], .slice a m cap] (w.alloc (.cells #[.int .i64 n, v1, v2, .int .i64 r] 25)) fun e w' => ∃ y0 p1 n1 k1 p2 n2 k2 y3, e = .returned (.tuple #[.agg #[.int .i64 y0, .slice p1 n1 k1, .slice p2 n2 k2, .int .i64 y3], .nilIface]) ∧ Below (w.alloc (.cells #[.int .i64 n, v1, v2, .int .i64 r] 25)).heap.size (w.alloc (.cells #[.int .i64 n, v1, v2, .int .i64 r] 25)) w') :
    Calls Tryz.prog 9 #[.agg #[.int .i64 n, v1, v2, .int .i64 r], .slice a m cap] w fun e w' => e = .returned (.int .i64 m) ∧ Below w.heap.size w w' := by
  have hb0 : Below w.heap.size w (w.alloc (.cells #[.int .i64 n, v1, v2, .int .i64 r] 25)) := (Below.refl _ w).alloc (Nat.le_refl _) _
  go_enter Tryz.func9, Tryz.ntmps9
  go_wp2_with (first | (go_at_call 23; refine hF.mono ?_; rintro e w2 ⟨y0, p1, n1, k1, p2, n2, k2, y3, rfl, hb2⟩) | (go_at_call 24; refine (as_nil _ _).mono ?_; rintro e w' ⟨rfl, rfl⟩))
  have hbb : Below w.heap.size w w2 := hb0.trans (hb2.mono (by simp))
  have hsz := hbb.size
  go_ret
  exact ⟨rfl, ((hbb.alloc hsz _).alloc (by simp; omega) _).alloc (by simp; omega) _⟩
theorem lr_unt {n r : Int} {v1 v2 : Value} {a : Option Addr} {m cap : Nat} {w : World} (hg : w.cell? ⟨0, 0, none⟩ = some etHdl)
    (hF : Calls Tryz.prog 23 #[.agg #[.int .i64 n, v1, v2, .int .i64 r], .slice a m cap] (w.alloc (.cells #[.int .i64 n, v1, v2, .int .i64 r] 25)) fun e w' => ∃ y0 p1 n1 k1 p2 n2 k2 y3, e = .returned (.tuple #[.agg #[.int .i64 y0, .slice p1 n1 k1, .slice p2 n2 k2, .int .i64 y3], .iface 53 (.agg #[])]) ∧ Below (w.alloc (.cells #[.int .i64 n, v1, v2, .int .i64 r] 25)).heap.size (w.alloc (.cells #[.int .i64 n, v1, v2, .int .i64 r] 25)) w') :
    Calls Tryz.prog 9 #[.agg #[.int .i64 n, v1, v2, .int .i64 r], .slice a m cap] w fun e w' => e = .returned (.int .i64 (-1)) ∧ Below w.heap.size w w' := by
  have hb0 : Below w.heap.size w (w.alloc (.cells #[.int .i64 n, v1, v2, .int .i64 r] 25)) := (Below.refl _ w).alloc (Nat.le_refl _) _
  have hlt : 0 < w.heap.size := by
    rcases Nat.lt_or_ge 0 w.heap.size with h | h
    · exact h
    · simp [World.cell?, Array.getElem?_eq_none h] at hg
  have hgx : ∀ w', Below w.heap.size w w' → w'.cell? ⟨0, 0, none⟩ = some etHdl := fun w' hb => (hb.cell (p := ⟨0, 0, none⟩) hlt).trans hg
  go_enter Tryz.func9, Tryz.ntmps9
  go_wp2_with (go_at_call 23; refine hF.mono ?_)
  rintro e w2 ⟨y0, p1, n1, k1, p2, n2, k2, y3, rfl, hb2⟩
  have hbb : Below w.heap.size w w2 := hb0.trans (hb2.mono (by simp))
  have hsz := hbb.size
  have hb3 : ∀ o1 o2, Below w.heap.size w ((w2.alloc o1).alloc o2) := fun o1 o2 => (hbb.alloc hsz _).alloc (by simp; omega) _
  have hU := fun t o1 o2 => as_hitU2 t ((w2.alloc o1).alloc o2) (hgx _ (hb3 o1 o2))
  clear hgx hg
  go_wp2_with (go_at_call 24; refine (hU _ _ _).mono ?_; rintro e w4 ⟨rfl, hb4⟩)
  go_ret
  exact ⟨rfl, (hb3 _ _).trans (hb4.mono (by simp; omega))⟩
theorem lr_rej {n r : Int} {v1 v2 : Value} {a : Option Addr} {m cap : Nat} {w : World} (k : Int) (hg : w.cell? ⟨0, 0, none⟩ = some etHdl)
    (hF : Calls Tryz.prog 23 #[.agg #[.int .i64 n, v1, v2, .int .i64 r], .slice a m cap] (w.alloc (.cells #[.int .i64 n, v1, v2, .int .i64 r] 25)) fun e w' => ∃ y0 p1 n1 k1 p2 n2 k2 y3, e = .returned (.tuple #[.agg #[.int .i64 y0, .slice p1 n1 k1, .slice p2 n2 k2, .int .i64 y3], .iface 57 (.agg #[.int .i64 k])]) ∧ Below (w.alloc (.cells #[.int .i64 n, v1, v2, .int .i64 r] 25)).heap.size (w.alloc (.cells #[.int .i64 n, v1, v2, .int .i64 r] 25)) w') :
    Calls Tryz.prog 9 #[.agg #[.int .i64 n, v1, v2, .int .i64 r], .slice a m cap] w fun e w' => e = .returned (.int .i64 k) ∧ Below w.heap.size w w' := by
  have hb0 : Below w.heap.size w (w.alloc (.cells #[.int .i64 n, v1, v2, .int .i64 r] 25)) := (Below.refl _ w).alloc (Nat.le_refl _) _
  have hlt : 0 < w.heap.size := by
    rcases Nat.lt_or_ge 0 w.heap.size with h | h
    · exact h
    · simp [World.cell?, Array.getElem?_eq_none h] at hg
  have hgx : ∀ w', Below w.heap.size w w' → w'.cell? ⟨0, 0, none⟩ = some etHdl := fun w' hb => (hb.cell (p := ⟨0, 0, none⟩) hlt).trans hg
  go_enter Tryz.func9, Tryz.ntmps9
  go_wp2_with (go_at_call 23; refine hF.mono ?_)
  rintro e w2 ⟨y0, p1, n1, k1, p2, n2, k2, y3, rfl, hb2⟩
  have hbb : Below w.heap.size w w2 := hb0.trans (hb2.mono (by simp))
  have hsz := hbb.size
  have hb3 : ∀ o1 o2, Below w.heap.size w ((w2.alloc o1).alloc o2) := fun o1 o2 => (hbb.alloc hsz _).alloc (by simp; omega) _
  have hM := fun t o1 o2 => as_missR2 k t ((w2.alloc o1).alloc o2) (hgx _ (hb3 o1 o2))
  go_wp2_with (go_at_call 24; refine (hM _ _ _).mono ?_)
  rintro e w4 ⟨rfl, hb4⟩
  have hb5 := (hb3 _ _).trans (hb4.mono (by simp; omega))
  have hsz5 := hb5.size
  have hR := as_hitR2 (B := w.heap.size) k ⟨w4.heap.size, 0, none⟩ (.int .i64 0) (w4.alloc (.cells #[.int .i64 0] 57)) (hgx _ (hb5.alloc hsz5 _)) (by simp) (by simp) (by simp; omega) (by simp; omega)
  clear hgx hg hM hF
  go_wp2_with (go_at_call 24; refine hR.mono ?_)
  rintro e w6 ⟨rfl, hc6, hb6⟩
  go_wp2
  go_ret
  exact ⟨rfl, (hb5.alloc hsz5 _).trans hb6⟩
theorem acc_split {e : EpD} {ls : List LkD} (h : accV e ls = true) : EpV e.n e.c e.k e.r = true ∧ chainV e ls = true := by
  simp only [accV, Bool.and_eq_true] at h
  exact h
theorem sl_slice {c : Ctx} {sz : Nat} {l : List (List AV)} {v : Value} (h : RepV c (.sl sz l) v) : ∃ a cap, v = .slice a l.length cap := by
  cases h with
  | sl0 sz a cap => exact ⟨a, cap, rfl⟩
  | sl sz l b off cap vf hok hcap hl hc h => exact ⟨_, cap, rfl⟩
def c_impl_LightReach : Con := ⟨0, 0, false, fun xs hs Fs K => match xs with
  | [.agg [.val (.int .i64 n), .ints c, .ints k, .val (.int .i64 r)], .sl 7 rows] => hs = [] ∧ hasTab Fs ∧ hasEt Fs ∧ ∃ ls : List LkD, rows = ls.map LkD.row ∧ c.length < 2000000 ∧ k.length < 2000000 ∧ (∀ x ∈ ls, x.small) ∧ ls.length < 2000000 ∧
    K (I (rchV ⟨n, c, k, r⟩ ls)) [] []
  | _ => False⟩
theorem k_impl_LightReach : Keeps' Tryz.prog 9 c_impl_LightReach := by
  rintro E args aargs hs Fs K h hlen hn0 hsat hrep hfx
  simp only [c_impl_LightReach] at h
  split at h
  case h_2 => exact h.elim
  rename_i n c k r rows
  obtain ⟨rfl, hT, hE, ls, rfl, l1, l2, hsm, l3, h⟩ := h
  have hlen2 : (ls.map LkD.row).length = ls.length := by simp
  obtain ⟨a, u, rfl⟩ : ∃ a u, args = [a, u] := by
    rcases args with _ | ⟨a, _ | ⟨b, _ | ⟨b2, t⟩⟩⟩
    · simp at hlen
    · simp at hlen
    · exact ⟨a, b, rfl⟩
    · simp at hlen
  have h0 := hrep 0 _ a rfl rfl
  have h1 := hrep 1 _ u rfl rfl
  have hg := et_of hsat hE
  have h0' := h0
  obtain ⟨p, cap, rfl⟩ := sl_slice h1
  cases h0 with
  | agg cs vs hl hh1 hh =>
    obtain ⟨a0, v1, v2, a3, rfl⟩ : ∃ a0 v1 v2 a3, vs = [a0, v1, v2, a3] := by
      rcases vs with _ | ⟨a0, _ | ⟨a1, _ | ⟨a2, _ | ⟨a3, _ | ⟨a4, t⟩⟩⟩⟩⟩ <;> simp at hl
      exact ⟨a0, a1, a2, a3, rfl⟩
    have e0 := hh 0 _ a0 rfl rfl
    have e3 := hh 3 _ a3 rfl rfl
    cases e0
    cases e3
    have hb0 : Below E.w0.heap.size E.w0 (E.w0.alloc (.cells #[.int .i64 n, v1, v2, .int .i64 r] 25)) := (Below.refl _ _).alloc (Nat.le_refl _) _
    rcases Bool.eq_false_or_eq_true (accV ⟨n, c, k, r⟩ ls) with q | q
    · obtain ⟨q1, q2⟩ := acc_split q
      have q1 : EpV n c k r = true := q1
      have hF := follow_calls err_nil hsat (n := n) (r := r) (c := c) (k := k) (rows := ls.map LkD.row)
        ⟨rfl, hT, ls, rfl, l1, l2, hsm, l3, Both.mk (fun _ => ⟨_, _, _, _, rfl, int_is _, sl_is _, sl_is _, int_is _⟩) (Both.mk (fun e => absurd (q1.symm.trans e) (by decide)) (fun e => absurd (q2.symm.trans e.2) (by decide)))⟩ h0' h1 hb0
      refine (lr_acc hF).mono ?_
      rintro e w' ⟨rfl, hb⟩
      have hz : rchV ⟨n, c, k, r⟩ ls = ((ls.map LkD.row).length : Int) := by
        have q1 : EpD.ok ⟨n, c, k, r⟩ = true := q1
        rw [rchV, if_pos q1, reachN_all ls _ q2, hlen2]
      rw [hz] at h
      exact ret_below hsat hn0 rfl hb h
    · rcases Bool.eq_false_or_eq_true (EpV n c k r) with q1 | q1
      · have q2 : chainV ⟨n, c, k, r⟩ ls = false := by
          have q1 : EpD.ok ⟨n, c, k, r⟩ = true := q1
          rw [accV, q1, Bool.true_and] at q
          exact q
        have hF := follow_calls (err_rej (reachN ⟨n, c, k, r⟩ ls)) hsat (n := n) (r := r) (c := c) (k := k) (rows := ls.map LkD.row)
          ⟨rfl, hT, ls, rfl, l1, l2, hsm, l3, Both.mk (fun e => absurd (q.symm.trans e) (by decide)) (Both.mk (fun e => absurd (q1.symm.trans e) (by decide)) (fun _ => ⟨_, _, _, _, rfl, int_is _, sl_is0, sl_is0, int_is _⟩))⟩ h0' h1 hb0
        refine (lr_rej _ hg hF).mono ?_
        rintro e w' ⟨rfl, hb⟩
        have hz : rchV ⟨n, c, k, r⟩ ls = (reachN ⟨n, c, k, r⟩ ls : Int) := by
          have q1 : EpD.ok ⟨n, c, k, r⟩ = true := q1
          rw [rchV, if_pos q1]
        rw [hz] at h
        exact ret_below hsat hn0 rfl hb h
      · have hF := follow_calls err_unt hsat (n := n) (r := r) (c := c) (k := k) (rows := ls.map LkD.row)
          ⟨rfl, hT, ls, rfl, l1, l2, hsm, l3, Both.mk (fun e => absurd (q.symm.trans e) (by decide)) (Both.mk (fun _ => ⟨_, _, _, _, rfl, int_is _, sl_is0, sl_is0, int_is _⟩) (fun e => absurd (q1.symm.trans e.1) (by decide)))⟩ h0' h1 hb0
        refine (lr_unt hg hF).mono ?_
        rintro e w' ⟨rfl, hb⟩
        have hz : rchV ⟨n, c, k, r⟩ ls = -1 := by
          have q1 : EpD.ok ⟨n, c, k, r⟩ = false := q1
          rw [rchV, q1, if_neg (by decide)]
        rw [hz] at h
        exact ret_below hsat hn0 rfl hb h
end Go.Proofs.YtlhbdhccddadaaaGreatDoor
