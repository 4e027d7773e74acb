/-
errors.As at the program's two kinds of errors: contracts.
No conditions.
-/
import Derived.Test.YtlhbdhccddadaaaGreatDoorProg
import Derived.WalkKit
import Derived.LaidEql
import Derived.Stop.Asserts
import Derived.RowKitTokens
namespace Go.Proofs.YtlhbdhccddadaaaGreatDoor
open Go Go.RowKit Go.Extern.Stop Go.Stop Go.Extern
set_option maxRecDepth 100000
abbrev hdl (t : Nat) : Value := .pointer (some ⟨4, t, none⟩)
/-- errors.As(nil, target). -/
theorem as_nil (t : Value) (w : World) : Calls Tryz.prog 24 #[.nilIface, t] w fun e w' => e = .returned (.bool false) ∧ w' = w := by
  go_enter Tryz.func24, Tryz.ntmps24
  go_wp2
  go_ret
  exact ⟨rfl, rfl⟩
theorem as_mKind (h : Value) (w : World) : (Go.method 309 128 (.agg #[h]) "Kind").run Tryz.prog w = .ok (154, h) w := by kernel_rfl
theorem as_mElem (h : Value) (w : World) : (Go.method 309 128 (.agg #[h]) "Elem").run Tryz.prog w = .ok (165, .agg #[h]) w := by kernel_rfl
theorem as_mImpl (h : Value) (w : World) : (Go.method 309 128 (.agg #[h]) "Implements").run Tryz.prog w = .ok (166, .agg #[h]) w := by kernel_rfl
theorem as_mAssn (h : Value) (w : World) : (Go.method 309 128 (.agg #[h]) "AssignableTo").run Tryz.prog w = .ok (163, .agg #[h]) w := by kernel_rfl
theorem rlm (z : Sem Value) (f : TypeId → Addr → Nat → Nat → Sem Value) (v : Value) :
    ReflectliteValue.method z f #[v] = (do match ← ReflectliteValue.parts v with | none => z | some (t, a, fl) => f t a fl (fl % 32)) := rfl
theorem rls (v x : Value) : ReflectliteValue.set #[v, x] = (do
    let (some (dst, a, fl), some (src, b, _)) := (← ReflectliteValue.parts v, ← ReflectliteValue.parts x)
      | unsupported (.noEntry "extern/(internal/reflectlite.Value).Set.zeroValue")
    if fl / ReflectliteValue.flagAddr % 2 == 0 then unsupported (.noEntry "extern/(internal/reflectlite.Value).Set.unaddressable")
    let val ← loadVar src b
    if ← Rtype.directlyAssignable dst src then storeVar dst a val
    else if ← Rtype.implements dst src then
      if (← Rtype.kind src) == 20 then
        match val with
        | .nilIface => unsupported (.noEntry "extern/reflectlite: a nil value of one interface type handed on as a value of another")
        | _ => storeVar dst a val
      else storeVar dst a (.iface src val)
    else panicString ("reflectlite.Set: value of type " ++ (← Rtype.spelt src) ++ " is not assignable to type " ++ (← Rtype.spelt dst))
    pure (.tuple #[])) := rfl
theorem as_valuePU (t : Addr) (w : World) : (ReflectliteValue.unpack (.iface 55 (.pointer (some t)))).run Tryz.prog w
    = .ok (.agg #[hdl 55, .pointer (some ⟨w.heap.size, 0, none⟩), .int .u64 150]) (w.alloc (.cells #[.pointer (some t)] 55)) := by kernel_rfl
theorem as_typePU (a : Addr) (w : World) : (ReflectliteValue.methodAny (ReflectliteValue.valueError "reflectlite.Value.Type" 0) (fun t _ _ _ => ReflectliteType.toType t) #[.agg #[hdl 55, .pointer (some a), .int .u64 150]]).run Tryz.prog w
    = .ok (.iface 128 (.agg #[hdl 55])) w := by kernel_rfl
theorem as_kindPU (w : World) : ((ReflectliteType.abiMethod fun t => (fun a : Nat => Value.int IntKind.u8 (a : Int)) <$> Rtype.kind t) #[hdl 55]).run Tryz.prog w = .ok (.int .u8 22) w := by kernel_rfl
theorem as_kindEU (w : World) : ((ReflectliteType.abiMethod fun t => (fun a : Nat => Value.int IntKind.u8 (a : Int)) <$> Rtype.kind t) #[hdl 53]).run Tryz.prog w = .ok (.int .u8 25) w := by kernel_rfl
theorem as_partsPU (a : Addr) (w : World) : (ReflectliteValue.parts (.agg #[hdl 55, .pointer (some a), .int .u64 150])).run Tryz.prog w = .ok (some (55, a, 150)) w := by kernel_rfl
theorem as_isNilU (a p : Addr) (W : World) (ha : W.cell? a = some (.pointer (some p))) :
    (ReflectliteValue.method (ReflectliteValue.valueError "reflectlite.Value.IsNil" 0) ReflectliteValue.isNil #[.agg #[hdl 55, .pointer (some a), .int .u64 150]]).run Tryz.prog W = .ok (.bool false) W := by
  rw [rlm]
  simp only [Sem.run_bind, as_partsPU, Result.andThen]
  simp [ReflectliteValue.isNil, loadVar, isAgg, underlying, Tryz.underlying55, ha, Result.andThen]
theorem as_elemTU (w : World) : (ReflectliteType.method ReflectliteType.elem #[.agg #[hdl 55]]).run Tryz.prog w = .ok (.iface 128 (.agg #[hdl 53])) w := by kernel_rfl
theorem as_implU (w : World) : (ReflectliteType.relation "Implements" ReflectliteType.implements_ #[.agg #[hdl 53], .iface 128 (.agg #[hdl 49])]).run Tryz.prog w = .ok (.bool true) w := by kernel_rfl
theorem as_typeOfU (v : Value) (w : World) : (ReflectliteType.typeOf #[.iface 53 v]).run Tryz.prog w = .ok (.iface 128 (.agg #[hdl 53])) w := by kernel_rfl
theorem as_assnU (w : World) : (ReflectliteType.relation "AssignableTo" ReflectliteType.assignableTo #[.agg #[hdl 53], .iface 128 (.agg #[hdl 53])]).run Tryz.prog w = .ok (.bool true) w := by kernel_rfl
theorem as_valueEU (w : World) : (ReflectliteValue.unpack (.iface 53 (.agg #[]))).run Tryz.prog w
    = .ok (.agg #[hdl 53, .pointer (some ⟨w.heap.size, 0, none⟩), .int .u64 153]) (w.alloc (.cells #[] 53)) := by kernel_rfl
theorem as_elemOfU (w : World) : (Rtype.elem? 55).run Tryz.prog w = .ok (some 53) w := by kernel_rfl
theorem as_mkEU (p : Addr) (w : World) : (ReflectliteValue.mk 53 p ReflectliteValue.flagAddr).run Tryz.prog w = .ok (.agg #[hdl 53, .pointer (some p), .int .u64 409]) w := by kernel_rfl
theorem as_elemVU (a p : Addr) (W : World) (ha : W.cell? a = some (.pointer (some p))) :
    (ReflectliteValue.method (ReflectliteValue.valueError "reflectlite.Value.Elem" 0) ReflectliteValue.elem #[.agg #[hdl 55, .pointer (some a), .int .u64 150]]).run Tryz.prog W
      = .ok (.agg #[hdl 53, .pointer (some p), .int .u64 409]) W := by
  rw [rlm]
  simp only [Sem.run_bind, as_partsPU, Result.andThen]
  simp [ReflectliteValue.elem, loadVar, isAgg, underlying, Tryz.underlying55, ha, Result.andThen, as_elemOfU, as_mkEU]
theorem as_partsAU (a : Addr) (w : World) : (ReflectliteValue.parts (.agg #[hdl 53, .pointer (some a), .int .u64 409])).run Tryz.prog w = .ok (some (53, a, 409)) w := by kernel_rfl
theorem as_partsEU (a : Addr) (w : World) : (ReflectliteValue.parts (.agg #[hdl 53, .pointer (some a), .int .u64 153])).run Tryz.prog w = .ok (some (53, a, 153)) w := by kernel_rfl
theorem as_directU (w : World) : (Rtype.directlyAssignable 53 53).run Tryz.prog w = .ok true w := by kernel_rfl
theorem as_valuePR (t : Addr) (w : World) : (ReflectliteValue.unpack (.iface 58 (.pointer (some t)))).run Tryz.prog w
    = .ok (.agg #[hdl 58, .pointer (some ⟨w.heap.size, 0, none⟩), .int .u64 150]) (w.alloc (.cells #[.pointer (some t)] 58)) := by kernel_rfl
theorem as_typePR (a : Addr) (w : World) : (ReflectliteValue.methodAny (ReflectliteValue.valueError "reflectlite.Value.Type" 0) (fun t _ _ _ => ReflectliteType.toType t) #[.agg #[hdl 58, .pointer (some a), .int .u64 150]]).run Tryz.prog w
    = .ok (.iface 128 (.agg #[hdl 58])) w := by kernel_rfl
theorem as_kindPR (w : World) : ((ReflectliteType.abiMethod fun t => (fun a : Nat => Value.int IntKind.u8 (a : Int)) <$> Rtype.kind t) #[hdl 58]).run Tryz.prog w = .ok (.int .u8 22) w := by kernel_rfl
theorem as_kindER (w : World) : ((ReflectliteType.abiMethod fun t => (fun a : Nat => Value.int IntKind.u8 (a : Int)) <$> Rtype.kind t) #[hdl 57]).run Tryz.prog w = .ok (.int .u8 25) w := by kernel_rfl
theorem as_partsPR (a : Addr) (w : World) : (ReflectliteValue.parts (.agg #[hdl 58, .pointer (some a), .int .u64 150])).run Tryz.prog w = .ok (some (58, a, 150)) w := by kernel_rfl
theorem as_isNilR (a p : Addr) (W : World) (ha : W.cell? a = some (.pointer (some p))) :
    (ReflectliteValue.method (ReflectliteValue.valueError "reflectlite.Value.IsNil" 0) ReflectliteValue.isNil #[.agg #[hdl 58, .pointer (some a), .int .u64 150]]).run Tryz.prog W = .ok (.bool false) W := by
  rw [rlm]
  simp only [Sem.run_bind, as_partsPR, Result.andThen]
  simp [ReflectliteValue.isNil, loadVar, isAgg, underlying, Tryz.underlying58, ha, Result.andThen]
theorem as_elemTR (w : World) : (ReflectliteType.method ReflectliteType.elem #[.agg #[hdl 58]]).run Tryz.prog w = .ok (.iface 128 (.agg #[hdl 57])) w := by kernel_rfl
theorem as_implR (w : World) : (ReflectliteType.relation "Implements" ReflectliteType.implements_ #[.agg #[hdl 57], .iface 128 (.agg #[hdl 49])]).run Tryz.prog w = .ok (.bool true) w := by kernel_rfl
theorem as_typeOfR (v : Value) (w : World) : (ReflectliteType.typeOf #[.iface 57 v]).run Tryz.prog w = .ok (.iface 128 (.agg #[hdl 57])) w := by kernel_rfl
theorem as_assnR (w : World) : (ReflectliteType.relation "AssignableTo" ReflectliteType.assignableTo #[.agg #[hdl 57], .iface 128 (.agg #[hdl 57])]).run Tryz.prog w = .ok (.bool true) w := by kernel_rfl
theorem as_valueER (n : Int) (w : World) : (ReflectliteValue.unpack (.iface 57 (.agg #[.int .i64 n]))).run Tryz.prog w
    = .ok (.agg #[hdl 57, .pointer (some ⟨w.heap.size, 0, none⟩), .int .u64 153]) (w.alloc (.cells #[.int .i64 n] 57)) := by kernel_rfl
theorem as_elemOfR (w : World) : (Rtype.elem? 58).run Tryz.prog w = .ok (some 57) w := by kernel_rfl
theorem as_mkER (p : Addr) (w : World) : (ReflectliteValue.mk 57 p ReflectliteValue.flagAddr).run Tryz.prog w = .ok (.agg #[hdl 57, .pointer (some p), .int .u64 409]) w := by kernel_rfl
theorem as_elemVR (a p : Addr) (W : World) (ha : W.cell? a = some (.pointer (some p))) :
    (ReflectliteValue.method (ReflectliteValue.valueError "reflectlite.Value.Elem" 0) ReflectliteValue.elem #[.agg #[hdl 58, .pointer (some a), .int .u64 150]]).run Tryz.prog W
      = .ok (.agg #[hdl 57, .pointer (some p), .int .u64 409]) W := by
  rw [rlm]
  simp only [Sem.run_bind, as_partsPR, Result.andThen]
  simp [ReflectliteValue.elem, loadVar, isAgg, underlying, Tryz.underlying58, ha, Result.andThen, as_elemOfR, as_mkER]
theorem as_partsAR (a : Addr) (w : World) : (ReflectliteValue.parts (.agg #[hdl 57, .pointer (some a), .int .u64 409])).run Tryz.prog w = .ok (some (57, a, 409)) w := by kernel_rfl
theorem as_partsER (a : Addr) (w : World) : (ReflectliteValue.parts (.agg #[hdl 57, .pointer (some a), .int .u64 153])).run Tryz.prog w = .ok (some (57, a, 153)) w := by kernel_rfl
theorem as_directR (w : World) : (Rtype.directlyAssignable 57 57).run Tryz.prog w = .ok true w := by kernel_rfl
theorem as_loadU (b : Addr) (W : World) : (loadVar 53 b).run Tryz.prog W = .ok (.agg #[]) W := by kernel_rfl
theorem as_storeU (a : Addr) (W : World) : (storeVar 53 a (.agg #[])).run Tryz.prog W = .ok () W := by kernel_rfl
theorem as_setU (ta b : Addr) (W : World) : (ReflectliteValue.set #[.agg #[hdl 53, .pointer (some ta), .int .u64 409], .agg #[hdl 53, .pointer (some b), .int .u64 153]]).run Tryz.prog W = .ok (.tuple #[]) W := by
  rw [rls]
  simp only [Sem.run_bind, as_partsAU, as_partsEU, Result.andThen]
  simp [ReflectliteValue.flagAddr, as_loadU, Result.andThen, as_directU, as_storeU]
theorem as_loadR (b : Addr) (n : Int) (W : World) (hb : W.cell? b = some (.int .i64 n)) : (loadVar 57 b).run Tryz.prog W = .ok (.agg #[.int .i64 n]) W := by
  simp [loadVar, isAgg, underlying, Tryz.underlying57, loadCells, loadCellsFrom, Addr.add, hb, Result.andThen]
theorem as_storeR (a : Addr) (n : Int) (old : Value) (W : World) (ht : W.cell? a = some old) (hf : W.frozen? a = false) : (storeVar 57 a (.agg #[.int .i64 n])).run Tryz.prog W = .ok () (W.setCell a (.int .i64 n)) := by
  simp [storeVar, Value.cells, storeCells, Addr.add]
  rw [run_store Tryz.prog W a _ _ (by rfl)]
  simp [ht, hf]
theorem as_setR (ta b : Addr) (n : Int) (old : Value) (W : World) (hb : W.cell? b = some (.int .i64 n)) (ht : W.cell? ta = some old) (hf : W.frozen? ta = false) :
    (ReflectliteValue.set #[.agg #[hdl 57, .pointer (some ta), .int .u64 409], .agg #[hdl 57, .pointer (some b), .int .u64 153]]).run Tryz.prog W = .ok (.tuple #[]) (W.setCell ta (.int .i64 n)) := by
  rw [rls]
  simp only [Sem.run_bind, as_partsAR, as_partsER, Result.andThen]
  simp [ReflectliteValue.flagAddr, as_loadR b n W hb, Result.andThen, as_directR, as_storeR ta n old W ht hf]
end Go.Proofs.YtlhbdhccddadaaaGreatDoor
