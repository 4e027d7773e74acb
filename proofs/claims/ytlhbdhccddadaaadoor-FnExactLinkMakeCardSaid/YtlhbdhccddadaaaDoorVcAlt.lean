/-
Two contracts of one function as one: the caller chooses.
No conditions.
-/
import Derived.Test.YtlhbdhccddadaaaDoorVcMF
namespace Go.Vc
variable {P : Program}
/-- Either contract, by the caller's choice. -/
def Con.alt (a b : Con) : Con := ⟨a.nnew, a.mode, a.alias, fun xs hs Fs K => a.C xs hs Fs K ∨ b.C xs hs Fs K⟩
theorem ret_alt {E : Entry} {a b : Con} {Fs : List Fam} {K : AV → List AO → List Fam → Prop} {e : Ending} {w : World} (hn : b.nnew ≤ a.nnew) (ha : a.alias = b.alias) (h : Ret E b Fs K e w) : Ret E (a.alt b) Fs K e w := by
  obtain ⟨v, r, hs, nF, ρ, A, h1, h2, h3, h4, h5, h6, h7⟩ := h
  exact ⟨v, r, hs, nF, ρ, A, h1, h2, h3, h4, h5, by show hs.length ≤ E.n0 + a.nnew; omega, fun e => h7 (ha ▸ e)⟩
theorem keeps_alt {f : FuncId} {a b : Con} (ha : Keeps' P f a) (hb : Keeps' P f b) (hn : b.nnew ≤ a.nnew) (hl : a.alias = b.alias) (hm : a.mode = 3 → b.mode = 3 := by first | decide | exact id) : Keeps' P f (a.alt b) := by
  intro E args aargs hs Fs K hc h1 h2 h3 h4 hfx
  rcases hc with hc | hc
  · exact (ha E args aargs hs Fs K hc h1 h2 h3 h4 hfx).mono fun e w h => h
  · exact (hb E args aargs hs Fs K hc h1 h2 h3 h4 fun e => hm (hfx e)).mono fun e w h => ret_alt hn hl h
end Go.Vc
