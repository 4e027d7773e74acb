/-
slices.Reverse: its contract out of the shelf's.
No conditions.
-/
import Derived.Test.YtkabnbjlglippaaGreatDoorWjB
import Derived.Test.YtkabnbjlglippaaGreatDoorShelf
import Derived.Test.YtkabnbjlglippaaGreatDoorVcMH
namespace Go.Proofs.YtkabnbjlglippaaGreatDoor
open Go Go.Vc Go.RowKit Go.Sort
set_option maxHeartbeats 4000000
set_option maxRecDepth 10000
theorem own_out {c : Ctx} {k : Nat} {l : List Int} {v : Value} (hk : c.H k = .iarr l) (h : RepV c (.own k) v) : ∃ cap, v = .slice (some ⟨c.ρ k, 0, none⟩) l.length cap ∧ l.length ≤ cap ∧ cap ≤ 9223372036854775807 ∧ c.room k cap := by
  cases h with
  | own _ sz n cap hinf hcap hr =>
    rw [hk] at hinf
    simp only [AO.info, Option.some.injEq, Prod.mk.injEq] at hinf
    obtain ⟨rfl, rfl⟩ := hinf
    rw [Nat.mul_one] at hr
    exact ⟨cap, rfl, hcap.1, hcap.2, hr⟩
theorem holds_of {c : Ctx} {k : Nat} {l : List Int} (h : RepO c k (.iarr l)) : Holds (Value.int .i64) c.w (c.ρ k) 0 l.toArray := by
  obtain ⟨vs, T, h1, h2, h3, h4⟩ := h
  intro j hj
  have hj : j < l.length := by simpa using hj
  rw [Nat.mul_one] at h2
  have hv : vs[j]? = some vs[j] := Array.getElem?_eq_getElem (by omega)
  have hi : (icells l)[j]? = some [I l[j]] := icells_get.2 ⟨_, List.getElem?_eq_getElem hj, rfl⟩
  have := (h4 j [I l[j]] 0 (I l[j]) vs[j] hi rfl (by rw [Nat.mul_one, Nat.add_zero]; exact hv)).1
  have e : vs[j] = .int .i64 l[j] := by
    revert this
    generalize vs[j] = z
    intro this
    cases this; rfl
  refine ⟨?_, ?_⟩
  · rw [Nat.zero_add, cell_of_row c.w _ _ vs T (0, 0) h1, hv, e]
    simp [hj]
  · simp [World.frozen?, h1]
def c_slices_Reverse : Con := ⟨0, 3, false, fun xs hs _ K => match xs, hs with
  | [.own 0], [.iarr l] => K (.val (.tuple #[])) [.iarr l.reverse] []
  | _, _ => False⟩
theorem k_slices_Reverse : Keeps' Tryz.prog 112 c_slices_Reverse := by
  intro E args aargs hs Fs K hc hl hn0 hsat hr hfx
  simp only [c_slices_Reverse] at hc
  split at hc
  case h_2 => exact hc.elim
  case h_1 l =>
    obtain ⟨v0, rfl⟩ : ∃ v0, args = [v0] := by
      match args, hl with
      | [v0], _ => exact ⟨v0, rfl⟩
    have r0 := hr 0 _ v0 rfl rfl
    have hk : listH [AO.iarr l] 0 = .iarr l := rfl
    obtain ⟨cap, rfl, hcap, h63, hroom⟩ := own_out hk r0
    have ho := hsat.obj 0
    have hcall := Tryz.slices_Reverse_int (E.ρ0 0) 0 cap l E.w0 (holds_of ho) (by omega)
    refine Calls.mono hcall ?_
    rintro e w' ⟨rfl, q, rfl⟩
    obtain ⟨g1, g2⟩ := hsat.put (k := 0) (l2 := l.reverse) hk (d := l.reverse) (by simp) (by rw [List.take_length]) (Nat.le_refl _) q
    have hH : mapH (killF 0) (listH [AO.iarr l]) 0 (.iarr l.reverse) = listH [.iarr l.reverse] := by
      funext k
      unfold mapH
      cases k with
      | zero => rfl
      | succ k => rfl
    rw [hH] at g1
    exact ⟨_, .val (.tuple #[]), [.iarr l.reverse], [], E.ρ0, E.A0, rfl, hc, by rw [List.append_nil]; exact g1, .val _, by rw [hn0]; exact Nat.le_refl _, by rw [hn0]; exact Nat.le_refl _, fun _ => ⟨⟨rfl, by simp [roFreeO]⟩, rfl⟩⟩
end Go.Proofs.YtkabnbjlglippaaGreatDoor
