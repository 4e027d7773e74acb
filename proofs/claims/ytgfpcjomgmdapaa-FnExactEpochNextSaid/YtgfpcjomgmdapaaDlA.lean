/-
The library's slices.Delete: its contract out of the shelf's.
No conditions.
-/
import Derived.Test.YtgfpcjomgmdapaaShelf
import Derived.Test.YtgfpcjomgmdapaaEvB
import Derived.Test.YtgfpcjomgmdapaaVcPut
namespace Go.Proofs.Ytgfpcjomgmdapaa
open Go Go.Vc Go.RowKit Go.Sort
set_option maxHeartbeats 1000000
set_option maxRecDepth 10000
theorem own_out {c : Ctx} {k : Nat} {l : List Int} {v : Value} (hk : c.H k = .iarr l) (h : RepV c (.own k) v) : ∃ cap, v = .slice (some ⟨c.ρ k, 0, none⟩) l.length cap ∧ l.length ≤ cap ∧ cap ≤ 9223372036854775807 ∧ c.room k cap := by
  cases h with
  | own _ sz n cap hinf hcap hr =>
    rw [hk] at hinf
    simp only [AO.info, Option.some.injEq, Prod.mk.injEq] at hinf
    obtain ⟨rfl, rfl⟩ := hinf
    rw [Nat.mul_one] at hr
    exact ⟨cap, rfl, hcap.1, hcap.2, hr⟩
theorem holds_of {c : Ctx} {k : Nat} {l : List Int} (h : RepO c k (.iarr l)) : Holds (Value.int .i64) c.w (c.ρ k) 0 l.toArray := by
  obtain ⟨vs, T, h1, h2, h3, h4⟩ := h
  intro j hj
  have hj : j < l.length := by simpa using hj
  rw [Nat.mul_one] at h2
  have hv : vs[j]? = some vs[j] := Array.getElem?_eq_getElem (by omega)
  have hi : (icells l)[j]? = some [I l[j]] := icells_get.2 ⟨_, List.getElem?_eq_getElem hj, rfl⟩
  have := (h4 j [I l[j]] 0 (I l[j]) vs[j] hi rfl (by rw [Nat.mul_one, Nat.add_zero]; exact hv)).1
  have e : vs[j] = .int .i64 l[j] := by
    revert this
    generalize vs[j] = z
    intro this
    cases this; rfl
  refine ⟨?_, ?_⟩
  · rw [Nat.zero_add, cell_of_row c.w _ _ vs T (0, 0) h1, hv, e]
    simp [hj]
  · simp [World.frozen?, h1]
def c_slices_Delete : Con := ⟨0, 2, false, fun xs hs _ K => match xs, hs with
  | [.own 0, .val (.int .i64 i), .val (.int .i64 j)], [.iarr l] => 0 ≤ i ∧ i ≤ j ∧ j ≤ l.length ∧ K (.own 0) [.iarr (l.take i.toNat ++ l.drop j.toNat)] []
  | _, _ => False⟩
theorem k_slices_Delete : Keeps' Try.prog 56 c_slices_Delete := by
  intro E args aargs hs Fs K hc hl hn0 hsat hr hfx
  simp only [c_slices_Delete] at hc
  split at hc
  case h_2 => exact hc.elim
  case h_1 i j l =>
    obtain ⟨hi, hij, hj, hK⟩ := hc
    obtain ⟨v0, v1, v2, rfl⟩ : ∃ v0 v1 v2, args = [v0, v1, v2] := by
      match args, hl with
      | [v0, v1, v2], _ => exact ⟨v0, v1, v2, rfl⟩
    have r0 := hr 0 _ v0 rfl rfl
    have r1 := hr 1 _ v1 rfl rfl
    have r2 := hr 2 _ v2 rfl rfl
    have e1 : v1 = .int .i64 i := by cases r1; rfl
    have e2 : v2 = .int .i64 j := by cases r2; rfl
    subst e1 e2
    have hk : listH [AO.iarr l] 0 = .iarr l := rfl
    obtain ⟨cap, rfl, hcap, h63, hroom⟩ := own_out hk r0
    obtain ⟨i, rfl⟩ : ∃ n : Nat, i = n := ⟨i.toNat, by omega⟩
    obtain ⟨j, rfl⟩ : ∃ n : Nat, j = n := ⟨j.toNat, by omega⟩
    have ho := hsat.obj 0
    have hcall := Try.slices_Delete_int (E.ρ0 0) 0 cap i j l E.w0 (holds_of ho) hcap h63 (by omega) (by omega)
    refine Calls.mono hcall ?_
    rintro e w' ⟨rfl, q, rfl⟩
    have hlen : (l.take i ++ l.drop j).length = l.length - (j - i) := by simp; omega
    obtain ⟨g1, g2⟩ := hsat.put (k := 0) (l2 := l.take i ++ l.drop j) hk (d := l.take i ++ l.drop j ++ List.replicate (j - i) 0) (by simp; omega) (by rw [List.take_left']; rfl) (by simp) q
    have hH : mapH (killF 0) (listH [AO.iarr l]) 0 (.iarr (l.take i ++ l.drop j)) = listH [.iarr (l.take i ++ l.drop j)] := by
      funext k
      unfold mapH
      cases k with
      | zero => rfl
      | succ k => rfl
    rw [hH] at g1
    refine ⟨_, .own 0, [.iarr (l.take i ++ l.drop j)], [], E.ρ0, E.A0, rfl, hK, by rw [List.append_nil]; exact g1, ?_, by rw [hn0]; exact Nat.le_refl _, by rw [hn0]; exact Nat.le_refl _, fun _ => ⟨⟨rfl, by simp [roFreeO]⟩, rfl⟩⟩
    rw [← hlen]
    exact .own 0 1 _ cap rfl ⟨by rw [hlen]; omega, h63⟩ (by rw [Nat.mul_one]; exact g2 cap hroom _ _)
end Go.Proofs.Ytgfpcjomgmdapaa
