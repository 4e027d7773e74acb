/-
The table of types, read off a program, and when it holds.
No conditions.
-/
import Derived.Test.YtgfpcjomgmdapaaVcEnd
namespace Go.Vc
variable {P : Program}

def kindOf : TypeDesc → Nat
  | .slice _ => 1
  | .array _ _ => 2
  | .struct _ => 3
  | .string => 4
  | .bool => 5
  | .int _ => 6
  | .pointer _ => 7
  | .interface _ => 8
  | _ => 0
def aggOf : TypeDesc → Bool
  | .struct _ | .array _ _ => true
  | _ => false
def elemOf : TypeDesc → TypeId
  | .slice e | .array _ e | .pointer e => e
  | _ => 0
def alenOf : TypeDesc → Nat
  | .array n _ => n
  | _ => 0
def ikOf : TypeDesc → IntKind
  | .int k => k
  | _ => .i64
def fieldsOf (P : Program) : TypeDesc → List (Nat × Nat)
  | .struct fs => fs.toList.map fun f => (f.offset, P.cellsOf f.type)
  | _ => []
def isAggV : Value → Bool
  | .agg _ => true
  | _ => false
def tiOf (P : Program) (t : TypeId) : Option TI :=
  match P.info? t, P.underlying t with
  | some i, some d => match i.zero with
    | some z =>
      if 0 < i.size && z.cells.toList.all (·.oneCell') && z.cells.toList.length == i.size && (aggOf d || i.size == 1) && (fieldsOf P d).all (fun p => decide (0 < p.2)) && (!aggOf d || isAggV z) then
        some ⟨kindOf d, aggOf d, i.size, i.bytes, z.cells.toList, fieldsOf P d, elemOf d, alenOf d, ikOf d⟩
      else none
    | none => none
  | _, _ => none

theorem tiOf_ok {t : TypeId} {ti : TI} (h : tiOf P t = some ti) : TyOk P t ti := by
  unfold tiOf at h
  split at h
  case h_2 => cases h
  case h_1 i d hi hd =>
    split at h
    case h_2 => cases h
    case h_1 z hz =>
      split at h
      case isFalse => cases h
      case isTrue hc =>
        simp only [Bool.and_eq_true, decide_eq_true_eq, beq_iff_eq, Bool.or_eq_true, List.all_eq_true] at hc
        obtain ⟨⟨⟨⟨⟨h1, h2⟩, h3⟩, h4⟩, h5⟩, h6⟩ := hc
        cases h
        refine { info := ⟨i, z, hi, rfl, rfl, hz, rfl⟩, pos := h1, one := h2, zlen := h3, agg := fun w => ?_, sz1 := fun ha => h4.resolve_left (by have ha : aggOf d = false := ha; simp [ha]), slice := ?_, array := ?_, struct := ?_, string := ?_, bool := ?_, int := ?_, ptr := ?_, iface := ?_, zagg := ?_ }
        · simp only [isAgg, underlying, Sem.run_bind]
          cases d <;> simp [hd, aggOf]
        all_goals intro hk
        · cases d <;> simp [kindOf] at hk <;> exact hd
        · cases d <;> simp [kindOf] at hk <;> exact hd
        · cases d <;> simp [kindOf] at hk
          rename_i fs
          refine ⟨fs, hd, rfl, fun f hf => ?_⟩
          have := h5 (f.offset, P.cellsOf f.type) (by
            simp only [fieldsOf, List.mem_map]
            exact ⟨f, by simpa using hf, rfl⟩)
          exact this
        · cases d <;> simp [kindOf] at hk <;> exact hd
        · cases d <;> simp [kindOf] at hk <;> exact hd
        · cases d <;> simp [kindOf] at hk <;> exact hd
        · cases d <;> simp [kindOf] at hk <;> exact hd
        · cases d <;> simp [kindOf] at hk <;> exact ⟨_, hd⟩
        · have ha : aggOf d = true := hk
          rw [ha] at h6
          cases z <;> simp [isAggV] at h6
          exact ⟨i, _, hi, hz⟩

def tblT (l : List (TypeId × TI)) : TT := fun t => (l.find? fun p => p.1 == t).map (·.2)
theorem tbl_ok {l : List (TypeId × TI)} (h : l.map (fun p => tiOf P p.1) = l.map fun p => some p.2) : TOk P (tblT l) := by
  intro t ti ht
  unfold tblT at ht
  obtain ⟨p, hp, rfl⟩ := Option.map_eq_some_iff.1 ht
  have hm := List.mem_of_find?_eq_some hp
  have he : p.1 = t := by simpa using List.find?_some hp
  obtain ⟨i, hi, hg⟩ := List.getElem_of_mem hm
  have h1 := congrArg (·[i]?) h
  simp only [List.getElem?_map, List.getElem?_eq_getElem hi, hg, Option.map_some, Option.some.injEq] at h1
  rw [← he]
  exact tiOf_ok h1
end Go.Vc
