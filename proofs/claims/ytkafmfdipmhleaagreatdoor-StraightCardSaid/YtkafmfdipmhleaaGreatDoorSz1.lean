/-
  What is proved: errors.As of a fault, at a target of the errors' numbers; plain.Told. (After the kit's worked text on errors.As.) errors.As of a fault that wraps a number. what a recovered fault is told as: failed, and the deferred closures where a device's error was thrown. the contract of the journal's Settle, on whatever disk. the contract of the journal's Append, on whatever disk. the contract of the journal's Append, on whatever disk. the contract of the engine's write, on whatever disk.
-/
import Derived.Test.YtkafmfdipmhleaaGreatDoorRa9
import Derived.WalkKit
import Derived.LaidEql
import Derived.Stop.Asserts
import Derived.RowKitTokens

namespace Go.Proofs.YtkafmfdipmhleaaGreatDoor
open Go.RowKit Go.Extern.Stop Go.Stop Go.Extern

theorem Tryz.valueOf105 (t : Addr) (w : World) : (ReflectliteValue.unpack (.iface 105 (.pointer (some t)))).run Tryz.prog w
    = .ok (.agg #[.pointer (some ⟨1, 105, none⟩), .pointer (some ⟨w.heap.size, 0, none⟩), .int .u64 150]) (w.alloc (.cells #[.pointer (some t)] 105)) := by kernel_rfl
theorem Tryz.type105 (a : Addr) (w : World) : (ReflectliteValue.methodAny (ReflectliteValue.valueError "reflectlite.Value.Type" 0) (fun t _ _ _ => ReflectliteType.toType t) #[.agg #[.pointer (some ⟨1, 105, none⟩), .pointer (some a), .int .u64 150]]).run Tryz.prog w
    = .ok (.iface 176 (.agg #[.pointer (some ⟨1, 105, none⟩)])) w := by kernel_rfl
theorem Tryz.kind105 (w : World) : ((ReflectliteType.abiMethod fun t => (fun a : Nat => Value.int IntKind.u8 (a : Int)) <$> Rtype.kind t) #[.pointer (some ⟨1, 105, none⟩)]).run Tryz.prog w = .ok (.int .u8 22) w := by kernel_rfl
theorem Tryz.kind55 (w : World) : ((ReflectliteType.abiMethod fun t => (fun a : Nat => Value.int IntKind.u8 (a : Int)) <$> Rtype.kind t) #[.pointer (some ⟨1, 55, none⟩)]).run Tryz.prog w = .ok (.int .u8 2) w := by kernel_rfl
theorem rlm (z : Sem Value) (f : TypeId → Addr → Nat → Nat → Sem Value) (v : Value) :
    ReflectliteValue.method z f #[v] = (do match ← ReflectliteValue.parts v with | none => z | some (t, a, fl) => f t a fl (fl % 32)) := rfl
theorem Tryz.parts105 (a : Addr) (w : World) : (ReflectliteValue.parts (.agg #[.pointer (some ⟨1, 105, none⟩), .pointer (some a), .int .u64 150])).run Tryz.prog w = .ok (some (105, a, 150)) w := by kernel_rfl
theorem Tryz.isNil105 (a p : Addr) (W : World) (ha : W.cell? a = some (.pointer (some p))) :
    (ReflectliteValue.method (ReflectliteValue.valueError "reflectlite.Value.IsNil" 0) ReflectliteValue.isNil #[.agg #[.pointer (some ⟨1, 105, none⟩), .pointer (some a), .int .u64 150]]).run Tryz.prog W = .ok (.bool false) W := by
  rw [rlm]
  simp only [Sem.run_bind, Tryz.parts105, Result.andThen]
  simp [ReflectliteValue.isNil, loadVar, isAgg, underlying, Tryz.underlying105, ha, Result.andThen]
theorem Tryz.elem105 (w : World) : (ReflectliteType.method ReflectliteType.elem #[.agg #[.pointer (some ⟨1, 105, none⟩)]]).run Tryz.prog w = .ok (.iface 176 (.agg #[.pointer (some ⟨1, 55, none⟩)])) w := by kernel_rfl
theorem Tryz.implements55 (w : World) : (ReflectliteType.relation "Implements" ReflectliteType.implements_ #[.agg #[.pointer (some ⟨1, 55, none⟩)], .iface 176 (.agg #[.pointer (some ⟨1, 32, none⟩)])]).run Tryz.prog w = .ok (.bool true) w := by kernel_rfl
theorem Tryz.typeOf121 (v : Value) (w : World) : (ReflectliteType.typeOf #[.iface 121 v]).run Tryz.prog w = .ok (.iface 176 (.agg #[.pointer (some ⟨1, 121, none⟩)])) w := by kernel_rfl
theorem Tryz.typeOf55 (v : Value) (w : World) : (ReflectliteType.typeOf #[.iface 55 v]).run Tryz.prog w = .ok (.iface 176 (.agg #[.pointer (some ⟨1, 55, none⟩)])) w := by kernel_rfl
theorem Tryz.assignable121 (w : World) : (ReflectliteType.relation "AssignableTo" ReflectliteType.assignableTo #[.agg #[.pointer (some ⟨1, 121, none⟩)], .iface 176 (.agg #[.pointer (some ⟨1, 55, none⟩)])]).run Tryz.prog w = .ok (.bool false) w := by kernel_rfl
theorem Tryz.assignable55 (w : World) : (ReflectliteType.relation "AssignableTo" ReflectliteType.assignableTo #[.agg #[.pointer (some ⟨1, 55, none⟩)], .iface 176 (.agg #[.pointer (some ⟨1, 55, none⟩)])]).run Tryz.prog w = .ok (.bool true) w := by kernel_rfl
theorem Tryz.valueOf55 (n : Int) (w : World) : (ReflectliteValue.unpack (.iface 55 (.int .i64 n))).run Tryz.prog w
    = .ok (.agg #[.pointer (some ⟨1, 55, none⟩), .pointer (some ⟨w.heap.size, 0, none⟩), .int .u64 130]) (w.alloc (.cells #[.int .i64 n] 55)) := by kernel_rfl
theorem Tryz.elemOf105 (w : World) : (Rtype.elem? 105).run Tryz.prog w = .ok (some 55) w := by kernel_rfl
theorem Tryz.mk55 (p : Addr) (w : World) : (ReflectliteValue.mk 55 p ReflectliteValue.flagAddr).run Tryz.prog w = .ok (.agg #[.pointer (some ⟨1, 55, none⟩), .pointer (some p), .int .u64 386]) w := by kernel_rfl
theorem Tryz.elemV105 (a p : Addr) (W : World) (ha : W.cell? a = some (.pointer (some p))) :
    (ReflectliteValue.method (ReflectliteValue.valueError "reflectlite.Value.Elem" 0) ReflectliteValue.elem #[.agg #[.pointer (some ⟨1, 105, none⟩), .pointer (some a), .int .u64 150]]).run Tryz.prog W
      = .ok (.agg #[.pointer (some ⟨1, 55, none⟩), .pointer (some p), .int .u64 386]) W := by
  rw [rlm]
  simp only [Sem.run_bind, Tryz.parts105, Result.andThen]
  simp [ReflectliteValue.elem, loadVar, isAgg, underlying, Tryz.underlying105, ha, Result.andThen, Tryz.elemOf105, Tryz.mk55]
theorem rls (v x : Value) : ReflectliteValue.set #[v, x] = (do
    let (some (dst, a, fl), some (src, b, _)) := (← ReflectliteValue.parts v, ← ReflectliteValue.parts x)
      | unsupported (.noEntry "extern/(internal/reflectlite.Value).Set.zeroValue")
    if fl / ReflectliteValue.flagAddr % 2 == 0 then unsupported (.noEntry "extern/(internal/reflectlite.Value).Set.unaddressable")
    let val ← loadVar src b
    if ← Rtype.directlyAssignable dst src then storeVar dst a val
    else if ← Rtype.implements dst src then
      if (← Rtype.kind src) == 20 then
        match val with
        | .nilIface => unsupported (.noEntry "extern/reflectlite: a nil value of one interface type handed on as a value of another")
        | _ => storeVar dst a val
      else storeVar dst a (.iface src val)
    else panicString ("reflectlite.Set: value of type " ++ (← Rtype.spelt src) ++ " is not assignable to type " ++ (← Rtype.spelt dst))
    pure (.tuple #[])) := rfl
theorem Tryz.parts55a (a : Addr) (w : World) : (ReflectliteValue.parts (.agg #[.pointer (some ⟨1, 55, none⟩), .pointer (some a), .int .u64 386])).run Tryz.prog w = .ok (some (55, a, 386)) w := by kernel_rfl
theorem Tryz.parts55 (a : Addr) (w : World) : (ReflectliteValue.parts (.agg #[.pointer (some ⟨1, 55, none⟩), .pointer (some a), .int .u64 130])).run Tryz.prog w = .ok (some (55, a, 130)) w := by kernel_rfl
theorem Tryz.direct55 (w : World) : (Rtype.directlyAssignable 55 55).run Tryz.prog w = .ok true w := by kernel_rfl
theorem Tryz.set55 (ta b : Addr) (n : Int) (old : Value) (W : World) (hb : W.cell? b = some (.int .i64 n)) (ht : W.cell? ta = some old) (hf : W.frozen? ta = false) :
    (ReflectliteValue.set #[.agg #[.pointer (some ⟨1, 55, none⟩), .pointer (some ta), .int .u64 386], .agg #[.pointer (some ⟨1, 55, none⟩), .pointer (some b), .int .u64 130]]).run Tryz.prog W
      = .ok (.tuple #[]) (W.setCell ta (.int .i64 n)) := by
  rw [rls]
  simp only [Sem.run_bind, Tryz.parts55a, Tryz.parts55, Result.andThen]
  simp [ReflectliteValue.flagAddr, loadVar, isAgg, underlying, Tryz.underlying55, hb, Result.andThen, Tryz.direct55, storeVar, Value.cells, storeCells, Addr.add]
  rw [run_store Tryz.prog W ta _ _ (by rfl)]
  simp [ht, hf]
end Go.Proofs.YtkafmfdipmhleaaGreatDoor

namespace Go.Proofs.YtkafmfdipmhleaaGreatDoor
open Go.RowKit Go.Extern.Stop Go.Stop Go.Extern

theorem Tryz.noAs (v : Value) (xT : TypeId) (w : World) : (Instr.typeAssert (.iface 121 v) xT 181 true).run Tryz.prog w = .ok (.tuple #[.nilIface, .bool false]) w := run_typeAssert_lacksB Tryz.underlying181 (by kernel_rfl) (by kernel_rfl) v xT w
theorem Tryz.isUnwrap (v : Value) (xT : TypeId) (w : World) : (Instr.typeAssert (.iface 121 v) xT 184 true).run Tryz.prog w = .ok (.tuple #[.iface 121 v, .bool true]) w := run_typeAssert_hasB Tryz.underlying184 (by kernel_rfl) v xT w
set_option maxHeartbeats 4000000 in
set_option maxRecDepth 100000 in
/-- errors.As of a fault that wraps a number. -/
theorem as_fault (fb t : Nat) (op : ByteArray) (n : Int) (old : Value) (w : World) (hg : w.cell? ⟨0, 0, none⟩ = some (.iface 176 (.agg #[.pointer (some ⟨1, 32, none⟩)]))) (hfb : w.heap[fb]? = some (.cells (faultCells op n) 123 (0, 0))) (ht : w.heap[t]? = some (.cells #[old] 55 (0, 0))) :
    Calls Tryz.prog 56 #[.iface 121 (.pointer (some ⟨fb, 0, none⟩)), .iface 105 (.pointer (some ⟨t, 0, none⟩))] w fun ev w' => ev = .returned (.bool true) ∧ Fr (· = t) w w' ∧ w'.heap[t]? = some (.cells #[.int .i64 n] 55 (0, 0)) := by
  have h75 := @run_callFunc_extern Tryz.prog 75 _ (fun args => ReflectliteValue.unpack (args.getD 0 (.tuple #[]))) Tryz.func75 (by kernel_rfl) (by kernel_rfl) (by kernel_rfl) (by kernel_rfl)
  have h76 := @run_callFunc_extern Tryz.prog 76 _ (ReflectliteValue.methodAny (ReflectliteValue.valueError "reflectlite.Value.Type" 0) (fun t _ _ _ => ReflectliteType.toType t)) Tryz.func76 (by kernel_rfl) (by kernel_rfl) (by kernel_rfl) (by kernel_rfl)
  have h77 := @run_callFunc_extern Tryz.prog 77 _ (ReflectliteValue.method (ReflectliteValue.valueError "reflectlite.Value.IsNil" 0) ReflectliteValue.isNil) Tryz.func77 (by kernel_rfl) (by kernel_rfl) (by kernel_rfl) (by kernel_rfl)
  have h174 := @run_callFunc_extern Tryz.prog 174 _ (ReflectliteType.abiMethod fun t => do pure (.int .u8 (← Rtype.kind t))) Tryz.func174 (by kernel_rfl) (by kernel_rfl) (by kernel_rfl) (by kernel_rfl)
  have h192 := @run_callFunc_extern Tryz.prog 192 _ (ReflectliteType.method ReflectliteType.elem) Tryz.func192 (by kernel_rfl) (by kernel_rfl) (by kernel_rfl) (by kernel_rfl)
  have h193 := @run_callFunc_extern Tryz.prog 193 _ (ReflectliteType.relation "Implements" ReflectliteType.implements_) Tryz.func193 (by kernel_rfl) (by kernel_rfl) (by kernel_rfl) (by kernel_rfl)
  have h100 := @run_callFunc_extern Tryz.prog 100 _ ReflectliteType.typeOf Tryz.func100 (by kernel_rfl) (by kernel_rfl) (by kernel_rfl) (by kernel_rfl)
  have h190 := @run_callFunc_extern Tryz.prog 190 _ (ReflectliteType.relation "AssignableTo" ReflectliteType.assignableTo) Tryz.func190 (by kernel_rfl) (by kernel_rfl) (by kernel_rfl) (by kernel_rfl)
  have h101 := @run_callFunc_extern Tryz.prog 101 _ (ReflectliteValue.method (ReflectliteValue.valueError "reflectlite.Value.Elem" 0) ReflectliteValue.elem) Tryz.func101 (by kernel_rfl) (by kernel_rfl) (by kernel_rfl) (by kernel_rfl)
  have h102 := @run_callFunc_extern Tryz.prog 102 _ ReflectliteValue.set Tryz.func102 (by kernel_rfl) (by kernel_rfl) (by kernel_rfl) (by kernel_rfl)
  have f75 := Tryz.valueOf105
  have f76 := Tryz.type105
  have htl := lt_of_hp ht
  have hfl := lt_of_hp hfb
  have h0l : 0 < w.heap.size := by omega
  have k105 := Tryz.kind105
  have k55 := Tryz.kind55
  have e105 := Tryz.elem105
  have i55 := Tryz.implements55
  have t121 := Tryz.typeOf121
  have t55 := Tryz.typeOf55
  have a121 := Tryz.assignable121
  have a55 := Tryz.assignable55
  have v55 := Tryz.valueOf55
  have hs1 : (w.alloc (.cells #[.pointer (some ⟨t, 0, none⟩)] 105)).heap.size = w.heap.size + 1 := sz_alloc _ _
  have hs2 : ((w.alloc (.cells #[.pointer (some ⟨t, 0, none⟩)] 105)).alloc (.cells #[.pointer (some ⟨1, 105, none⟩), .pointer (some ⟨w.heap.size, 0, none⟩), .int .u64 150] 143)).heap.size = w.heap.size + 1 + 1 := by rw [sz_alloc, sz_alloc]
  have hs3 : (((w.alloc (.cells #[.pointer (some ⟨t, 0, none⟩)] 105)).alloc (.cells #[.pointer (some ⟨1, 105, none⟩), .pointer (some ⟨w.heap.size, 0, none⟩), .int .u64 150] 143)).alloc (.cells #[.pointer (some ⟨1, 105, none⟩), .pointer (some ⟨w.heap.size, 0, none⟩), .int .u64 150] 143)).heap.size = w.heap.size + 1 + 1 + 1 := by rw [sz_alloc, sz_alloc, sz_alloc]
  have p2 : ((w.alloc (.cells #[.pointer (some ⟨t, 0, none⟩)] 105)).alloc (.cells #[.pointer (some ⟨1, 105, none⟩), .pointer (some ⟨w.heap.size, 0, none⟩), .int .u64 150] 143)).heap[w.heap.size]? = some (.cells #[.pointer (some ⟨t, 0, none⟩)] 105 (0, 0)) := heap_alloc_keep _ (heap_alloc_new w _)
  have p3 : (((w.alloc (.cells #[.pointer (some ⟨t, 0, none⟩)] 105)).alloc (.cells #[.pointer (some ⟨1, 105, none⟩), .pointer (some ⟨w.heap.size, 0, none⟩), .int .u64 150] 143)).alloc (.cells #[.pointer (some ⟨1, 105, none⟩), .pointer (some ⟨w.heap.size, 0, none⟩), .int .u64 150] 143)).heap[w.heap.size]? = some (.cells #[.pointer (some ⟨t, 0, none⟩)] 105 (0, 0)) := heap_alloc_keep _ p2
  have n77 := Tryz.isNil105 ⟨w.heap.size, 0, none⟩ ⟨t, 0, none⟩ ((w.alloc (.cells #[.pointer (some ⟨t, 0, none⟩)] 105)).alloc (.cells #[.pointer (some ⟨1, 105, none⟩), .pointer (some ⟨w.heap.size, 0, none⟩), .int .u64 150] 143)) (by rw [cellv, p2]; rfl)
  have el := Tryz.elemV105 ⟨w.heap.size, 0, none⟩ ⟨t, 0, none⟩ (((w.alloc (.cells #[.pointer (some ⟨t, 0, none⟩)] 105)).alloc (.cells #[.pointer (some ⟨1, 105, none⟩), .pointer (some ⟨w.heap.size, 0, none⟩), .int .u64 150] 143)).alloc (.cells #[.pointer (some ⟨1, 105, none⟩), .pointer (some ⟨w.heap.size, 0, none⟩), .int .u64 150] 143)) (by rw [cellv, p3]; rfl)
  have b4 : ((((w.alloc (.cells #[.pointer (some ⟨t, 0, none⟩)] 105)).alloc (.cells #[.pointer (some ⟨1, 105, none⟩), .pointer (some ⟨w.heap.size, 0, none⟩), .int .u64 150] 143)).alloc (.cells #[.pointer (some ⟨1, 105, none⟩), .pointer (some ⟨w.heap.size, 0, none⟩), .int .u64 150] 143)).alloc (.cells #[.int .i64 n] 55)).heap[w.heap.size + 1 + 1 + 1]? = some (.cells #[.int .i64 n] 55 (0, 0)) := by rw [← hs3]; exact heap_alloc_new _ _
  have t4 : ((((w.alloc (.cells #[.pointer (some ⟨t, 0, none⟩)] 105)).alloc (.cells #[.pointer (some ⟨1, 105, none⟩), .pointer (some ⟨w.heap.size, 0, none⟩), .int .u64 150] 143)).alloc (.cells #[.pointer (some ⟨1, 105, none⟩), .pointer (some ⟨w.heap.size, 0, none⟩), .int .u64 150] 143)).alloc (.cells #[.int .i64 n] 55)).heap[t]? = some (.cells #[old] 55 (0, 0)) := heap_alloc_keep _ (heap_alloc_keep _ (heap_alloc_keep _ (heap_alloc_keep _ ht)))
  have st := Tryz.set55 ⟨t, 0, none⟩ ⟨w.heap.size + 1 + 1 + 1, 0, none⟩ n old ((((w.alloc (.cells #[.pointer (some ⟨t, 0, none⟩)] 105)).alloc (.cells #[.pointer (some ⟨1, 105, none⟩), .pointer (some ⟨w.heap.size, 0, none⟩), .int .u64 150] 143)).alloc (.cells #[.pointer (some ⟨1, 105, none⟩), .pointer (some ⟨w.heap.size, 0, none⟩), .int .u64 150] 143)).alloc (.cells #[.int .i64 n] 55)) (by rw [cellv, b4]; rfl) (by rw [cellv, t4]; rfl) (by rw [frozv, t4]; rfl)
  have hg2 : ((w.alloc (.cells #[.pointer (some ⟨t, 0, none⟩)] 105)).alloc (.cells #[.pointer (some ⟨1, 105, none⟩), .pointer (some ⟨w.heap.size, 0, none⟩), .int .u64 150] 143)).cell? ⟨0, 0, none⟩ = some (.iface 176 (.agg #[.pointer (some ⟨1, 32, none⟩)])) := by
    rw [World.cell?_alloc_lt _ _ ⟨0, 0, none⟩ (by simp), World.cell?_alloc_lt _ _ ⟨0, 0, none⟩ h0l]; exact hg
  have hf3 : (((w.alloc (.cells #[.pointer (some ⟨t, 0, none⟩)] 105)).alloc (.cells #[.pointer (some ⟨1, 105, none⟩), .pointer (some ⟨w.heap.size, 0, none⟩), .int .u64 150] 143)).alloc (.cells #[.pointer (some ⟨1, 105, none⟩), .pointer (some ⟨w.heap.size, 0, none⟩), .int .u64 150] 143)).cell? ⟨fb, 1, none⟩ = some (.iface 55 (.int .i64 n)) := by
    rw [cellv, heap_alloc_keep _ (heap_alloc_keep _ (heap_alloc_keep _ hfb))]; rfl
  have Ht := Lib.hid ht
  have Ht4 := Lib.hid t4
  have Htl := Lib.hid htl
  have HF : Hid (Fr (· = t) w ((((w.alloc (.cells #[.pointer (some ⟨t, 0, none⟩)] 105)).alloc (.cells #[.pointer (some ⟨1, 105, none⟩), .pointer (some ⟨w.heap.size, 0, none⟩), .int .u64 150] 143)).alloc (.cells #[.pointer (some ⟨1, 105, none⟩), .pointer (some ⟨w.heap.size, 0, none⟩), .int .u64 150] 143)).alloc (.cells #[.int .i64 n] 55))) := ((((Fr.refl _ w).alloc _).alloc _).alloc _).alloc _
  clear hfb ht htl hfl p2 p3 b4 t4 hg h0l hs1 hs2 hs3
  go_enter Tryz.func56, Tryz.ntmps56
  go_wp2
  refine wp_loop_rounds 2 ?_
  rw [rounds_succ]
  have ta1 := Tryz.noAs
  have ta2 := Tryz.isUnwrap
  go_wp2
  simp only [Array.getD_eq_getD_getElem?]
  rw [rounds_succ]
  go_wp2
  go_ret
  refine ⟨rfl, HF.out.trans (Fr.one t _ 0 _), ?_⟩
  rw [hp_setCell, if_pos rfl, Ht4.out]; rfl
end Go.Proofs.YtkafmfdipmhleaaGreatDoor

namespace Go.Proofs.YtkafmfdipmhleaaGreatDoor
open Go.RowKit

/-- The laid variable of package errors. -/
def Handle (w : World) : Prop := w.cell? ⟨0, 0, none⟩ = some (.iface 176 (.agg #[.pointer (some ⟨1, 32, none⟩)]))
def TellPost (w : World) (op : ByteArray) (eb : Nat) (w' : World) : Prop :=
  Fr (· = eb) w w' ∧ ∃ nb, w.heap.size ≤ nb ∧ w'.heap[nb]? = some (.cells (faultCells op 5) 123 (0, 0)) ∧ w'.heap[eb]? = some (.cells #[.iface 121 (.pointer (some ⟨nb, 0, none⟩))] 32 (0, 0))
theorem Tryz.isFault (v : Value) (xT : TypeId) (w : World) : (Instr.typeAssert (.iface 121 v) xT 121 true).run Tryz.prog w = .ok (.tuple #[v, .bool true]) w := by
  simp [go_sem, Instr.typeAssert, Tryz.underlying121]
set_option maxRecDepth 100000 in
set_option maxHeartbeats 4000000 in
theorem failed_fault {w : World} {fb eb : Nat} {op op2 : ByteArray} {old : Value} (hg : Handle w) (hf : w.heap[fb]? = some (.cells (faultCells op2 5) 123 (0, 0))) (he : w.heap[eb]? = some (.cells #[old] 32 (0, 0))) :
    Calls Tryz.prog 70 #[.iface 121 (.pointer (some ⟨fb, 0, none⟩)), .string op, .pointer (some ⟨eb, 0, none⟩)] w fun e w' => e = .returned (.tuple #[]) ∧ TellPost w op eb w' := by
  have hlt := lt_of_hp he
  have hltf := lt_of_hp hf
  have hne : ¬ eb = w.heap.size := by omega
  have HA := Lib.hid (as_fault fb w.heap.size op2 5 (.int .i64 5) (w.alloc (.cells #[.int .i64 5] 55)) (by
    have h0 : 0 < w.heap.size := by omega
    rw [World.cell?_alloc_lt _ _ ⟨0, 0, none⟩ h0]; exact hg) (heap_alloc_keep _ hf) (heap_alloc_new w _))
  have He := Lib.hid he
  have Hne := Lib.hid hne
  clear hg hf he hlt hltf hne
  have hta := Tryz.isFault
  go_enter Tryz.func70, Tryz.ntmps70
  go_wp2_with (first
    | (go_at_call 56; refine Calls.mono HA.out ?_; rintro e w2 ⟨rfl, hf2, ht2⟩; have hl8 : w2.cell? ⟨w.heap.size, 0, none⟩ = some (.int .i64 5) := (by rw [cellv, ht2]; rfl); have he2 := heap_alloc_keep (.cells (faultCells op 5) 123) (hf2.get (heap_alloc_keep _ He.out) Hne.out); have hce : (w2.alloc (.cells #[.string op, .iface 55 (.int .i64 5)] 123)).cell? ⟨eb, 0, none⟩ = some old := (by rw [cellv]; unfold faultCells at he2; rw [he2]; rfl); have hfe : (w2.alloc (.cells #[.string op, .iface 55 (.int .i64 5)] 123)).frozen? ⟨eb, 0, none⟩ = false := (by rw [frozv]; unfold faultCells at he2; rw [he2]; rfl); have He2 := Lib.hid he2; clear he2)
    | fail)
  go_end0
  have hlt := lt_of_hp He.out
  have hs2 : w.heap.size + 1 ≤ w2.heap.size := by have := hf2.size; simpa using this
  have hn2 : ¬ w2.heap.size = eb := by omega
  refine ⟨rfl, ?_, w2.heap.size, by omega, ?_, ?_⟩
  · exact ((((Fr.refl (· = eb) w).alloc _).trans' hf2 (fun i hi e => by omega)).alloc _).setCell (fun _ => rfl) 0 _
  · rw [hp_setCell, if_neg hn2, heap_alloc_new]; rfl
  · have := He2.out
    unfold faultCells at this
    rw [hp_setCell, if_pos rfl, this]; rfl
def setStr : ByteArray := ⟨#[115, 101, 116, 116, 108, 101]⟩
def appStr : ByteArray := ⟨#[97, 112, 112, 101, 110, 100]⟩
def thrownF (fb : Nat) (r : Bool) : FrameMode := .panicking [{ v := .iface 121 (.pointer (some ⟨fb, 0, none⟩)), recovered := r }]
set_option maxHeartbeats 1000000 in
theorem told69 {w : World} {fb eb : Nat} {op2 : ByteArray} {old : Value} (hg : Handle w) (hf : w.heap[fb]? = some (.cells (faultCells op2 5) 123 (0, 0))) (he : w.heap[eb]? = some (.cells #[old] 32 (0, 0))) :
    CallsD Tryz.prog 69 #[.pointer (some ⟨eb, 0, none⟩)] (thrownF fb false) w fun e u' w' => e = .returned (.tuple #[]) ∧ u' = thrownF fb true ∧ TellPost w setStr eb w' := by
  refine callsD_of_wpS Tryz.func69 rfl fun c₀ cs hu => ?_
  apply wpS_region
  unfold thrownF at hu
  simp [wpOpsS, go_sem, recoverD, hu, Tryz.ntmps69]
  refine Calls.mono (failed_fault (op := setStr) hg hf he) ?_
  rintro e w' ⟨rfl, h⟩
  cases c₀
  simp_all [bodyPostS, results, Tryz.results69]
  rfl
set_option maxHeartbeats 1000000 in
theorem told94 {w : World} {fb eb : Nat} {op2 : ByteArray} {old : Value} (hg : Handle w) (hf : w.heap[fb]? = some (.cells (faultCells op2 5) 123 (0, 0))) (he : w.heap[eb]? = some (.cells #[old] 32 (0, 0))) :
    CallsD Tryz.prog 94 #[.pointer (some ⟨eb, 0, none⟩)] (thrownF fb false) w fun e u' w' => e = .returned (.tuple #[]) ∧ u' = thrownF fb true ∧ TellPost w appStr eb w' := by
  refine callsD_of_wpS Tryz.func94 rfl fun c₀ cs hu => ?_
  apply wpS_region
  unfold thrownF at hu
  simp [wpOpsS, go_sem, recoverD, hu, Tryz.ntmps94]
  refine Calls.mono (failed_fault (op := appStr) hg hf he) ?_
  rintro e w' ⟨rfl, h⟩
  cases c₀
  simp_all [bodyPostS, results, Tryz.results94]
  rfl
end Go.Proofs.YtkafmfdipmhleaaGreatDoor

namespace Go.Proofs.YtkafmfdipmhleaaGreatDoor
open Go.RowKit

theorem Handle.fr {S : Nat → Prop} {w w' : World} (h : Handle w) (hf : Fr S w w') (h0 : ¬ S 0) : Handle w' := by
  unfold Handle at h ⊢
  have hlt := World.block_lt_of_cell? w _ h
  rw [← h]; exact World.cell?_of_block (hf.block 0 hlt h0)
theorem Handle.new {w w' : World} (h : Handle w) (hf : New w w') : Handle w' := by
  unfold Handle at h ⊢
  have hlt := World.block_lt_of_cell? w _ h
  rw [← h]; exact World.cell?_of_block (hf.block 0 hlt (fun f => f))
/-- An error that was told of. -/
def ErrP (w : World) (op : ByteArray) (e : Ending) (w' : World) : Prop := ∃ nb, w.heap.size ≤ nb ∧ e = .returned (.iface 121 (.pointer (some ⟨nb, 0, none⟩))) ∧ w'.heap[nb]? = some (.cells (faultCells op 5) 123 (0, 0))
def SettleG (w : World) (jb db bb : Nat) (j : JnM) (d : DiskM) (e : Ending) (w' : World) : Prop :=
  Fr (fun k => k = db ∨ k = bb ∨ k = jb) w w' ∧
    ((j.fresh = false ∨ d.bad = false) ∧ e = .returned .nilIface ∧ DiskAt w' db bb (settleD j d) ∧ JnAt w' jb db { j with fresh := false } ∨
     j.fresh = true ∧ d.bad = true ∧ ErrP w setStr e w' ∧ DiskAt w' db bb d.count ∧ JnAt w' jb db j)
set_option maxRecDepth 100000 in
set_option maxHeartbeats 2000000 in
theorem Settle_gen {w : World} {jb db bb : Nat} {j : JnM} {d : DiskM} (hj : JnAt w jb db j) (h : DiskAt w db bb d) (hg : Handle w) (h0 : db ≠ 0 ∧ bb ≠ 0 ∧ jb ≠ 0) :
    Calls Tryz.prog 50 #[.pointer (some ⟨jb, 0, none⟩)] w (SettleG w jb db bb j d) := by
  have hmf : ∀ (fn : Fn) (first cap : Array Value) (w : World), (Instr.makeFunc fn first cap).run Tryz.prog w = .ok (.func fn first cap) w := fun _ _ _ _ => rfl
  have hne := jn_ne hj h
  have hlt := disk_lt h
  have hjl := lt_of_hp hj
  have hd1 := h.new ((Fr.refl _ w).alloc (.cells #[.nilIface] 32))
  have hj1 := heap_alloc_keep (.cells #[.nilIface] 32) hj
  have he1 := heap_alloc_new w (.cells #[.nilIface] 32)
  have hF1 : Fr (fun k => k = db ∨ k = bb ∨ k = jb) w (w.alloc (.cells #[.nilIface] 32)) := (Fr.refl _ w).alloc _
  have Hg := Lib.hid hg
  have H0 := Lib.hid h0
  have Hs : Hid (settleD j d = if j.fresh then d.flush else d) := rfl
  obtain ⟨ep, en, fresh⟩ := j
  go_enter_defers Tryz.func50, Tryz.ntmps50
  go_upto_region 2 with fail
  have HE : Hid (w.heap.size ≠ db ∧ w.heap.size ≠ bb ∧ w.heap.size ≠ jb ∧ ¬ w.heap.size < w.heap.size) := ⟨by omega, by omega, by omega, by omega⟩
  have Hne := Lib.hid hne
  have HF1 := Lib.hid hF1
  have Hd1 := Lib.hid hd1
  have Hg1 : Hid (Handle (w.alloc (.cells #[.nilIface] 32))) := Handle.new hg ((Fr.refl _ w).alloc _)
  clear h hj hne hlt hjl hd1 hF1 hg h0
  generalize w.alloc (.cells #[.nilIface] 32) = W1 at hj1 he1 HF1 Hd1 Hg1 ⊢
  have HEl := Lib.hid (rfl : w.heap.size = w.heap.size)
  generalize hE : w.heap.size = E at he1 HE ⊢
  have HEe := Lib.hid hE
  clear hE HEl
  unfold jnCells at hj1
  simp only at hj1
  have hcv := cellv W1
  have hfv := frozv W1
  cases fresh
  · go_wp2_with fail
    refine leaves_cons (f := 69) (args := #[.pointer (some ⟨E, 0, none⟩)]) (by simp) (by simp [go_sem]) ?_
    refine (idle69 _ _).mono ?_
    rintro e u' w'' ⟨rfl, rfl, rfl⟩
    have hsome : (W1.setCell ⟨E, 0, none⟩ Value.nilIface).cell? ⟨E, 0, none⟩ = some .nilIface := by rw [cellv, hp_setCell, if_pos rfl, he1]; rfl
    refine ⟨.nilIface, ?_, HF1.out.setCell (b := E) (fun h => absurd h (by rw [HEe.out]; omega)) 0 .nilIface, .inl ⟨.inl rfl, rfl, ?_, ?_⟩⟩
    · simp [results, Tryz.results50, go_sem, hsome]
    · exact Hd1.out.frame (Fr.one E W1 0 .nilIface) (by rintro k rfl; exact ⟨HE.out.1, HE.out.2.1, _, he1, by simp [kindOf]⟩)
    · unfold JnAt
      rw [hp_setCell, if_neg (Ne.symm HE.out.2.2.1)]; exact hj1
  · go_upto_region 4 with (first
      | (go_at_call 178; refine Calls.mono (Flush_calls Hd1.out) ?_; rintro e w6 ⟨hf6, ⟨hb6, rfl, hd6⟩ | ⟨hb6, rfl, hd6⟩⟩)
      | (go_at_call 71; refine Calls.mono (check_bad w6 5) ?_; rintro e w7 ⟨rfl, rfl⟩)
      | (go_at_call 71; refine Calls.mono (check_ok w6) ?_; rintro e w7 ⟨rfl, rfl⟩)
      | fail)
    · have he6 := hf6.get he1 (by rintro (e | e); exact HE.out.1 e; exact HE.out.2.1 e)
      have hj6 := hf6.get hj1 (by rintro (e | e); exact Hne.out.1 e; exact Hne.out.2 e)
      have hg6 := (Hg1.out.fr hf6 (by rintro (e | e); exact H0.out.1 e.symm; exact H0.out.2.1 e.symm)).new ((Fr.refl _ w6).alloc (.cells (faultCells devStr 5) 123))
      refine leaves_cons (f := 69) (args := #[.pointer (some ⟨E, 0, none⟩)]) (by simp) (by simp [go_sem]) ?_
      refine (told69 hg6 (heap_alloc_new w6 _) (heap_alloc_keep _ he6)).mono ?_
      rintro e u' w'' ⟨rfl, rfl, hF, nb, hnb, hnb2, heb⟩
      have hsome : w''.cell? ⟨E, 0, none⟩ = some (.iface 121 (.pointer (some ⟨nb, 0, none⟩))) := by rw [cellv, heb]; rfl
      have hFr : Fr (fun k => k = db ∨ k = bb ∨ k = jb) w w'' := ((HF1.out.trans (hf6.mono (fun k _ e => e.elim .inl (fun e => .inr (.inl e))))).alloc _).trans' hF (fun i hi e => absurd hi (by rw [HEe.out]; omega))
      refine ⟨.iface 121 (.pointer (some ⟨nb, 0, none⟩)), ?_, hFr, .inr ⟨rfl, hb6, ⟨nb, ?_, rfl, hnb2⟩, ?_, ?_⟩⟩
      · simp [results, Tryz.results50, go_sem, hsome]
      · have := (HF1.out.trans (hf6.mono (fun k _ e => e.elim .inl (fun e => .inr (.inl e))))).size
        simp at hnb; omega
      · exact (hd6.new ((Fr.refl _ w6).alloc _)).frame hF (by rintro k rfl; exact ⟨HE.out.1, HE.out.2.1, _, heap_alloc_keep _ he6, by simp [kindOf]⟩)
      · exact hF.get (heap_alloc_keep _ hj6) (fun e => HE.out.2.2.1 e.symm)
    · have hj7 := hf6.get hj1 (by rintro (e | e); exact Hne.out.1 e; exact Hne.out.2 e)
      have he7 := hf6.get he1 (by rintro (e | e); exact HE.out.1 e; exact HE.out.2.1 e)
      have HF7 := Lib.hid (HF1.out.trans (hf6.mono (fun k _ e => e.elim .inl (fun e => .inr (.inl e)))))
      have Hd7 := Lib.hid hd6
      have hb6 := Lib.hid hb6
      clear hf6 hd6 hcv hfv
      have hcv := cellv w7
      have hfv := frozv w7
      go_upto_region 5 with fail
      have hj8 : (w7.setCell ⟨jb, 3, none⟩ (.bool false)).heap[jb]? = some (.cells #[.iface 27 (.pointer (some ⟨db, 0, none⟩)), .int .u32 ep, .int .i64 en, .bool false] 132 (0, 0)) := by
        rw [hp_setCell, if_pos rfl, hj7]; rfl
      have he8 : (w7.setCell ⟨jb, 3, none⟩ (.bool false)).heap[E]? = some (.cells #[.nilIface] 32 (0, 0)) := by
        rw [hp_setCell, if_neg HE.out.2.2.1]; exact he7
      have Hd8 := Lib.hid (Hd7.out.frame (Fr.one jb w7 3 (.bool false)) (by rintro k rfl; exact ⟨Hne.out.1, Hne.out.2, _, hj7, by simp [kindOf]⟩))
      have HF8 := Lib.hid (HF7.out.setCell (b := jb) (fun _ => .inr (.inr rfl)) 3 (.bool false))
      clear hcv hfv hj7 he7
      generalize w7.setCell ⟨jb, 3, none⟩ (.bool false) = W8 at hj8 he8 Hd8 HF8 ⊢
      have hcv := cellv W8
      have hfv := frozv W8
      go_wp2_with fail
      refine leaves_cons (f := 69) (args := #[.pointer (some ⟨E, 0, none⟩)]) (by simp) (by simp [go_sem]) ?_
      refine (idle69 _ _).mono ?_
      rintro e u' w'' ⟨rfl, rfl, rfl⟩
      have hsome : (W8.setCell ⟨E, 0, none⟩ Value.nilIface).cell? ⟨E, 0, none⟩ = some .nilIface := by rw [cellv, hp_setCell, if_pos rfl, he8]; rfl
      refine ⟨.nilIface, ?_, HF8.out.setCell (b := E) (fun h => absurd h (by rw [HEe.out]; omega)) 0 .nilIface, .inl ⟨.inr hb6.out, rfl, ?_, ?_⟩⟩
      · simp [results, Tryz.results50, go_sem, hsome]
      · exact Hd8.out.frame (Fr.one E W8 0 .nilIface) (by rintro k rfl; exact ⟨HE.out.1, HE.out.2.1, _, he8, by simp [kindOf]⟩)
      · unfold JnAt
        rw [hp_setCell, if_neg (Ne.symm HE.out.2.2.1)]; exact hj8
end Go.Proofs.YtkafmfdipmhleaaGreatDoor

namespace Go.Proofs.YtkafmfdipmhleaaGreatDoor
open Go.RowKit

/-- Where a fault is thrown: what stands behind knows of the frame only the deferred calls and the result's slot. -/
def thrownQ (x4 : Value) (ds : List Deferred) (R : Nat → World → Prop) : Exit → Act → World → Prop
  | .panic c, a, w => a.defers = ds ∧ a.tmps[4]? = some x4 ∧ ∃ fb, c = [{ v := .iface 121 (.pointer (some ⟨fb, 0, none⟩)), recovered := false }] ∧ R fb w
  | _, _, _ => False
theorem thrownQ_put {x4 : Value} {ds : List Deferred} {R : Nat → World → Prop} {d : Tmp} (hd : d ≠ 4) {v : Value} (c : List PanicEntry) (a : Act) (w : World) (h : thrownQ x4 ds R (.panic c) (a.put (some d) v) w) : thrownQ x4 ds R (.panic c) a w := by
  obtain ⟨h1, h2, h3⟩ := h
  refine ⟨h1, ?_, h3⟩
  simp only [Act.put] at h2
  rw [Array.getElem?_setIfInBounds_ne hd] at h2
  exact h2
/-- A block made sure of, on whatever disk: the disk behind it; was no error told? -/
def DiskM.sureG (d : DiskM) (i : Nat) (l : List UInt8) : DiskM × Bool :=
  if d.bad then (d.count, false) else if (d.put i l).bad then ((d.put i l).count, false) else (d.sure i l, true)
def SureG (w : World) (db bb : Nat) (d : DiskM) (i : Nat) (l : List UInt8) (e : Ending) (w' : World) : Prop :=
  Fr (fun k => k = db ∨ k = bb) w w' ∧
    ((d.sureG i l).2 = false ∧ Thrown w e w' ∧ DiskAt w' db bb (d.sureG i l).1 ∨
     (d.sureG i l).2 = true ∧ e = .returned (.tuple #[]) ∧ DiskAt w' db bb (d.sureG i l).1)
theorem sure_gen {w : World} {db bb : Nat} {d : DiskM} (h : DiskAt w db bb d) (i : Nat) (hi : i < d.blocks.length) (hp : d.pend = none) (nb : Nat) (r : RecM) (hr : (recB r).length = 128)
    (hs : w.heap[nb]? = some (.cells (wayCells (recB r) 4) 201 (0, 0))) :
    Calls Tryz.prog 95 #[vol db, .int .i64 i, .slice (some ⟨nb, 0, none⟩) (endOf r) (endOf r)] w (SureG w db bb d i (recBytes r)) := by
  have hl : (recBytes r).length = endOf r := by
    unfold recBytes endOf; simp [hr]; split <;> omega
  have he : endOf r ≤ 128 := by unfold endOf; split <;> omega
  refine Calls.mono (sure_calls h i hi hp nb 0 (endOf r) (endOf r) (recBytes r) hl.symm (by omega) _ 201 hs (by decide) ?_) ?_
  · intro j hj
    rw [Nat.zero_add, way_byte _ _ _ (by omega)]
    simp only [recBytes, List.getD_eq_getElem?_getD]
    rw [List.getElem?_take_of_lt (by omega)]
  · rintro e w' ⟨hf, ⟨hb, ht, hd⟩ | ⟨hb, hb2, ht, hd⟩ | ⟨hb, hb2, rfl, hd⟩⟩
    · exact ⟨hf, .inl (by simp only [DiskM.sureG, hb, if_true]; exact ⟨trivial, ht, hd⟩)⟩
    · exact ⟨hf, .inl (by simp [DiskM.sureG, hb, hb2]; exact ⟨ht, hd⟩)⟩
    · exact ⟨hf, .inr (by simp [DiskM.sureG, hb, hb2]; exact hd)⟩
set_option maxRecDepth 100000 in
set_option maxHeartbeats 4000000 in
/-- j.v.sure(r.Index, r.bytes()). -/
theorem app_g9ok (jb db bb R ix : Nat) (j : JnM) (d : DiskM) (r : RecM) (sa : Option Addr) (sm sc : Nat) (W : World) (hne : jb ≠ db ∧ jb ≠ bb) (hRd : R ≠ db ∧ R ≠ bb)
    (hj : W.heap[jb]? = some (.cells (jnCells db j) 132 (0, 0))) (hr : W.heap[R]? = some (.cells #[.int .u8 r.kind, .int .u32 r.epoch, .int .i64 r.index, .int .i64 r.saga, .int .i64 r.reply, .slice sa sm sc] 91 (0, 0)))
    (hst : r.kind = 2 → StepsAt W (.slice sa sm sc) r.steps) (hok : r.ok) (hd : DiskAt W db bb d) (hp : d.pend = none) (hix : ix = r.index) (hil : ix < d.blocks.length)
    {ds : List Deferred} {x1 x2 x3 x4 x5 x6 x8 x9 x10 x11 x12 x13 x14 x15 x16 x17 x18 x19 x20 x21 x22 x23 x24 x25 x26 x27 x28 x29 x30 x31 x32 x33 x34 x35 x36 x37 x38 x39 x40 x41 x42 x43 x44 x45 x46 x47 x48 x49 x50 x51 : Value} {Q : Exit → Act → World → Prop}
    (hb : (d.sureG ix (recBytes r)).2 = true) (hQ : ∀ (y33 y34 y35 y36 y37 y38 y39 y40 y41 : Value) (w' : World), Fr (fun k => k = db ∨ k = bb) W w' → DiskAt w' db bb (d.sureG ix (recBytes r)).1 → Q .normal ⟨#[.pointer (some ⟨jb, 0, none⟩), x1, x2, x3, x4, x5, x6, .pointer (some ⟨R, 0, none⟩), x8, x9, x10, x11, x12, x13, x14, x15, x16, x17, x18, x19, x20, x21, x22, x23, x24, x25, x26, x27, x28, x29, x30, x31, x32, y33, y34, y35, y36, y37, y38, y39, y40, y41, x42, x43, x44, x45, x46, x47, x48, x49, x50, x51], ds⟩ w')
 :
    Code.wp Tryz.prog appR9 Q ⟨#[.pointer (some ⟨jb, 0, none⟩), x1, x2, x3, x4, x5, x6, .pointer (some ⟨R, 0, none⟩), x8, x9, x10, x11, x12, x13, x14, x15, x16, x17, x18, x19, x20, x21, x22, x23, x24, x25, x26, x27, x28, x29, x30, x31, x32, x33, x34, x35, x36, x37, x38, x39, x40, x41, x42, x43, x44, x45, x46, x47, x48, x49, x50, x51], ds⟩ W := by
  subst hix
  have a0 : W.cell? ⟨jb, 0, none⟩ = some (.iface 27 (.pointer (some ⟨db, 0, none⟩))) := by rw [cellv, hj]; rfl
  have r0 : W.cell? ⟨R, 0, none⟩ = some (.int .u8 r.kind) := by rw [cellv, hr]; rfl
  have r1 : W.cell? ⟨R, 1, none⟩ = some (.int .u32 r.epoch) := by rw [cellv, hr]; rfl
  have r2 : W.cell? ⟨R, 2, none⟩ = some (.int .i64 r.index) := by rw [cellv, hr]; rfl
  have r3 : W.cell? ⟨R, 3, none⟩ = some (.int .i64 r.saga) := by rw [cellv, hr]; rfl
  have r4 : W.cell? ⟨R, 4, none⟩ = some (.int .i64 r.reply) := by rw [cellv, hr]; rfl
  have r5 : W.cell? ⟨R, 5, none⟩ = some (.slice sa sm sc) := by rw [cellv, hr]; rfl
  have HK := Lib.hid (show ∀ (w' : World), Fr (fun k => k = db ∨ k = bb) W.drew w' → w'.cell? ⟨jb, 0, none⟩ = some (.iface 27 (.pointer (some ⟨db, 0, none⟩))) ∧ w'.cell? ⟨R, 0, none⟩ = some (.int .u8 r.kind) ∧ w'.cell? ⟨R, 1, none⟩ = some (.int .u32 r.epoch) ∧ w'.cell? ⟨R, 2, none⟩ = some (.int .i64 r.index) ∧ w'.cell? ⟨R, 3, none⟩ = some (.int .i64 r.saga) ∧ w'.cell? ⟨R, 4, none⟩ = some (.int .i64 r.reply) ∧ w'.cell? ⟨R, 5, none⟩ = some (.slice sa sm sc) from by
    intro w' hf
    have e1 := hf.get (w := W.drew) hj (by omega)
    have e2 := hf.get (w := W.drew) hr (by omega)
    refine ⟨?_, ?_, ?_, ?_, ?_, ?_, ?_⟩ <;> rw [cellv] <;> first | (rw [e1]; rfl) | (rw [e2]; rfl))
  have HB := Lib.hid (show Calls Tryz.prog 96 #[.agg #[.int .u8 r.kind, .int .u32 r.epoch, .int .i64 r.index, .int .i64 r.saga, .int .i64 r.reply, .slice sa sm sc]] W.drew (BytesPost W.drew r) from bytes_rec W.drew r (.slice sa sm sc) hok (fun h => hst h))
  have HS := Lib.hid (fun (w10 : World) (nb : Nat) (hf10 : New W.drew w10) (hwc : w10.heap[nb]? = some (.cells (wayCells (recB r) 4) 201 (0, 0))) => show Calls Tryz.prog 95 #[.agg #[.iface 27 (.pointer (some ⟨db, 0, none⟩))], .int .i64 r.index, .slice (some ⟨nb, 0, none⟩) (endOf r) (endOf r)] w10 (fun e w' => Fr (fun k => k = db ∨ k = bb) w10 w' ∧ e = .returned (.tuple #[]) ∧ DiskAt w' db bb (d.sureG r.index (recBytes r)).1) from Calls.mono (sure_gen ((hd.new ((Fr.refl _ W).drew)).new hf10) r.index hil hp nb _ (recB_len_ok _ hok) hwc) (fun e w' ⟨h1, h2⟩ => ⟨h1, h2.elim (fun h => by rw [hb] at h; cases h.1) (fun h => h.2)⟩))
  have HQ := Lib.hid hQ
  clear hb hj hr hst hd hp hil hok hQ hne hRd
  conv => arg 2; whnf
  go_region_held3 (fun w' => w'.cell? ⟨jb, 0, none⟩ = some (.iface 27 (.pointer (some ⟨db, 0, none⟩))) ∧ w'.cell? ⟨R, 0, none⟩ = some (.int .u8 r.kind) ∧ w'.cell? ⟨R, 1, none⟩ = some (.int .u32 r.epoch) ∧ w'.cell? ⟨R, 2, none⟩ = some (.int .i64 r.index) ∧ w'.cell? ⟨R, 3, none⟩ = some (.int .i64 r.saga) ∧ w'.cell? ⟨R, 4, none⟩ = some (.int .i64 r.reply) ∧ w'.cell? ⟨R, 5, none⟩ = some (.slice sa sm sc))
    (first | exact HK.out _ (Fr.refl _ _) | exact HK.out _ (hf10.mono (fun _ _ f => f.elim)) | exact HK.out _ ((hf10.mono (fun _ _ f => f.elim)).trans hf11))
    ((first
      | (go_at_call 96; refine Calls.mono HB.out ?_; rintro e w10 ⟨nb, rfl, hnb, hwc, hf10⟩)
      | (go_at_call 95; refine Calls.mono (HS.out _ _ hf10 hwc) ?_; rintro e w11 ⟨hf11, rfl, hd11⟩)
      | fail))
  exact HQ.out _ _ _ _ _ _ _ _ _ _ (((Fr.refl _ W).drew.trans (hf10.mono (fun _ _ f => f.elim))).trans hf11) hd11

set_option maxRecDepth 100000 in
set_option maxHeartbeats 4000000 in
/-- j.v.sure(r.Index, r.bytes()). -/
theorem app_g9bad (jb db bb R ix : Nat) (j : JnM) (d : DiskM) (r : RecM) (sa : Option Addr) (sm sc : Nat) (W : World) (hne : jb ≠ db ∧ jb ≠ bb) (hRd : R ≠ db ∧ R ≠ bb)
    (hj : W.heap[jb]? = some (.cells (jnCells db j) 132 (0, 0))) (hr : W.heap[R]? = some (.cells #[.int .u8 r.kind, .int .u32 r.epoch, .int .i64 r.index, .int .i64 r.saga, .int .i64 r.reply, .slice sa sm sc] 91 (0, 0)))
    (hst : r.kind = 2 → StepsAt W (.slice sa sm sc) r.steps) (hok : r.ok) (hd : DiskAt W db bb d) (hp : d.pend = none) (hix : ix = r.index) (hil : ix < d.blocks.length)
    {ds : List Deferred} {x1 x2 x3 x4 x5 x6 x8 x9 x10 x11 x12 x13 x14 x15 x16 x17 x18 x19 x20 x21 x22 x23 x24 x25 x26 x27 x28 x29 x30 x31 x32 x33 x34 x35 x36 x37 x38 x39 x40 x41 x42 x43 x44 x45 x46 x47 x48 x49 x50 x51 : Value} {Q : Exit → Act → World → Prop}

    (hb : (d.sureG ix (recBytes r)).2 = false) (hQp : ∀ (a' : Act) (w' : World) (fb : Nat), a'.defers = ds → a'.tmps[4]? = some x4 → W.heap.size ≤ fb → w'.heap[fb]? = some (.cells (faultCells devStr 5) 123 (0, 0)) → Fr (fun k => k = db ∨ k = bb) W w' → DiskAt w' db bb (d.sureG ix (recBytes r)).1 → Q (.panic [{ v := .iface 121 (.pointer (some ⟨fb, 0, none⟩)), recovered := false }]) a' w') :
    Code.wp Tryz.prog appR9 Q ⟨#[.pointer (some ⟨jb, 0, none⟩), x1, x2, x3, x4, x5, x6, .pointer (some ⟨R, 0, none⟩), x8, x9, x10, x11, x12, x13, x14, x15, x16, x17, x18, x19, x20, x21, x22, x23, x24, x25, x26, x27, x28, x29, x30, x31, x32, x33, x34, x35, x36, x37, x38, x39, x40, x41, x42, x43, x44, x45, x46, x47, x48, x49, x50, x51], ds⟩ W := by
  subst hix
  have a0 : W.cell? ⟨jb, 0, none⟩ = some (.iface 27 (.pointer (some ⟨db, 0, none⟩))) := by rw [cellv, hj]; rfl
  have r0 : W.cell? ⟨R, 0, none⟩ = some (.int .u8 r.kind) := by rw [cellv, hr]; rfl
  have r1 : W.cell? ⟨R, 1, none⟩ = some (.int .u32 r.epoch) := by rw [cellv, hr]; rfl
  have r2 : W.cell? ⟨R, 2, none⟩ = some (.int .i64 r.index) := by rw [cellv, hr]; rfl
  have r3 : W.cell? ⟨R, 3, none⟩ = some (.int .i64 r.saga) := by rw [cellv, hr]; rfl
  have r4 : W.cell? ⟨R, 4, none⟩ = some (.int .i64 r.reply) := by rw [cellv, hr]; rfl
  have r5 : W.cell? ⟨R, 5, none⟩ = some (.slice sa sm sc) := by rw [cellv, hr]; rfl
  have HK := Lib.hid (show ∀ (w' : World), Fr (fun k => k = db ∨ k = bb) W.drew w' → w'.cell? ⟨jb, 0, none⟩ = some (.iface 27 (.pointer (some ⟨db, 0, none⟩))) ∧ w'.cell? ⟨R, 0, none⟩ = some (.int .u8 r.kind) ∧ w'.cell? ⟨R, 1, none⟩ = some (.int .u32 r.epoch) ∧ w'.cell? ⟨R, 2, none⟩ = some (.int .i64 r.index) ∧ w'.cell? ⟨R, 3, none⟩ = some (.int .i64 r.saga) ∧ w'.cell? ⟨R, 4, none⟩ = some (.int .i64 r.reply) ∧ w'.cell? ⟨R, 5, none⟩ = some (.slice sa sm sc) from by
    intro w' hf
    have e1 := hf.get (w := W.drew) hj (by omega)
    have e2 := hf.get (w := W.drew) hr (by omega)
    refine ⟨?_, ?_, ?_, ?_, ?_, ?_, ?_⟩ <;> rw [cellv] <;> first | (rw [e1]; rfl) | (rw [e2]; rfl))
  have HB := Lib.hid (show Calls Tryz.prog 96 #[.agg #[.int .u8 r.kind, .int .u32 r.epoch, .int .i64 r.index, .int .i64 r.saga, .int .i64 r.reply, .slice sa sm sc]] W.drew (BytesPost W.drew r) from bytes_rec W.drew r (.slice sa sm sc) hok (fun h => hst h))
  have HS := Lib.hid (fun (w10 : World) (nb : Nat) (hf10 : New W.drew w10) (hwc : w10.heap[nb]? = some (.cells (wayCells (recB r) 4) 201 (0, 0))) => show Calls Tryz.prog 95 #[.agg #[.iface 27 (.pointer (some ⟨db, 0, none⟩))], .int .i64 r.index, .slice (some ⟨nb, 0, none⟩) (endOf r) (endOf r)] w10 (fun e w' => Fr (fun k => k = db ∨ k = bb) w10 w' ∧ Thrown w10 e w' ∧ DiskAt w' db bb (d.sureG r.index (recBytes r)).1) from Calls.mono (sure_gen ((hd.new ((Fr.refl _ W).drew)).new hf10) r.index hil hp nb _ (recB_len_ok _ hok) hwc) (fun e w' ⟨h1, h2⟩ => ⟨h1, h2.elim (fun h => h.2) (fun h => by rw [hb] at h; cases h.1)⟩))
  have HQp := Lib.hid hQp
  clear hb hj hr hst hd hp hil hok hQp hne hRd
  conv => arg 2; whnf
  refine Code.wp_mono (Q := thrownQ x4 ds (fun fb w' => W.heap.size ≤ fb ∧ w'.heap[fb]? = some (.cells (faultCells devStr 5) 123 (0, 0)) ∧ Fr (fun k => k = db ∨ k = bb) W w' ∧ DiskAt w' db bb (d.sureG r.index (recBytes r)).1)) (fun e a w h => by
    cases e <;> first | exact h.elim | skip
    obtain ⟨h1, h2, fb, rfl, h4, h5, h6, h7⟩ := h
    exact HQp.out a w fb h1 h2 h4 h5 h6 h7) ?_
  refine wp_region_held_drew (S := (fun w' => w'.cell? ⟨jb, 0, none⟩ = some (.iface 27 (.pointer (some ⟨db, 0, none⟩))) ∧ w'.cell? ⟨R, 0, none⟩ = some (.int .u8 r.kind) ∧ w'.cell? ⟨R, 1, none⟩ = some (.int .u32 r.epoch) ∧ w'.cell? ⟨R, 2, none⟩ = some (.int .i64 r.index) ∧ w'.cell? ⟨R, 3, none⟩ = some (.int .i64 r.saga) ∧ w'.cell? ⟨R, 4, none⟩ = some (.int .i64 r.reply) ∧ w'.cell? ⟨R, 5, none⟩ = some (.slice sa sm sc))) (by kernel_rfl) (HK.out _ (Fr.refl _ _)) (fun hHeld => ?_)
  refine wpAnyH_take (i := 0) (v := ?vb0) rfl (by kernel_rfl) (by kernel_rfl) (by kernel_rfl) (thrownQ_put (by decide)) (Or.inl ⟨by rfl, ?yb0⟩) hHeld ?rb0
  case yb0 => intro w hSw; (try dsimp only at hSw); go_simp; (try with_reducible rfl)
  simp only [List.getElem_toArray, List.getElem_cons_zero, List.getElem_cons_succ, Act.put, List.setIfInBounds_toArray, List.set_cons_zero, List.set_cons_succ]
  refine wpAnyH_take (i := 1) (v := ?vb1) rfl (by kernel_rfl) (by kernel_rfl) (by kernel_rfl) (thrownQ_put (by decide)) (Or.inl ⟨by rfl, ?yb1⟩) hHeld ?rb1
  case yb1 => intro w hSw; (try dsimp only at hSw); go_simp; (try with_reducible rfl)
  simp only [List.getElem_toArray, List.getElem_cons_zero, List.getElem_cons_succ, Act.put, List.setIfInBounds_toArray, List.set_cons_zero, List.set_cons_succ]
  refine wpAnyH_take (i := 2) (v := ?vb2) rfl (by kernel_rfl) (by kernel_rfl) (by kernel_rfl) (thrownQ_put (by decide)) (Or.inl ⟨by rfl, ?yb2⟩) hHeld ?rb2
  case yb2 => intro w hSw; (try dsimp only at hSw); go_simp; (try with_reducible rfl)
  simp only [List.getElem_toArray, List.getElem_cons_zero, List.getElem_cons_succ, Act.put, List.setIfInBounds_toArray, List.set_cons_zero, List.set_cons_succ]
  refine wpAnyH_take (i := 3) (v := ?vb3) rfl (by kernel_rfl) (by kernel_rfl) (by kernel_rfl) (thrownQ_put (by decide)) (Or.inl ⟨by rfl, ?yb3⟩) hHeld ?rb3
  case yb3 => intro w hSw; (try dsimp only at hSw); go_simp; (try with_reducible rfl)
  simp only [List.getElem_toArray, List.getElem_cons_zero, List.getElem_cons_succ, Act.put, List.setIfInBounds_toArray, List.set_cons_zero, List.set_cons_succ]
  refine wpAnyH_take (i := 4) (v := ?vb4) rfl (by kernel_rfl) (by kernel_rfl) (by kernel_rfl) (thrownQ_put (by decide)) (Or.inl ⟨by rfl, ?yb4⟩) hHeld ?rb4
  case yb4 => intro w hSw; (try dsimp only at hSw); go_simp; (try with_reducible rfl)
  simp only [List.getElem_toArray, List.getElem_cons_zero, List.getElem_cons_succ, Act.put, List.setIfInBounds_toArray, List.set_cons_zero, List.set_cons_succ]
  refine wpAnyH_take (i := 5) (v := ?vb5) rfl (by kernel_rfl) (by kernel_rfl) (by kernel_rfl) (thrownQ_put (by decide)) (Or.inl ⟨by rfl, ?yb5⟩) hHeld ?rb5
  case yb5 => intro w hSw; (try dsimp only at hSw); go_simp; (try with_reducible rfl)
  simp only [List.getElem_toArray, List.getElem_cons_zero, List.getElem_cons_succ, Act.put, List.setIfInBounds_toArray, List.set_cons_zero, List.set_cons_succ]
  refine wpAnyH_take (i := 6) (v := ?vb6) rfl (by kernel_rfl) (by kernel_rfl) (by kernel_rfl) (thrownQ_put (by decide)) (Or.inl ⟨by rfl, ?yb6⟩) hHeld ?rb6
  case yb6 => intro w hSw; (try dsimp only at hSw); go_simp; (try with_reducible rfl)
  simp only [List.getElem_toArray, List.getElem_cons_zero, List.getElem_cons_succ, Act.put, List.setIfInBounds_toArray, List.set_cons_zero, List.set_cons_succ]
  refine wpAnyH_ready (rs := [7]) (by kernel_rfl) (by simp) ?_
  refine AllReadyH.cons rfl (fun K hK => ?_) AllReadyH.nil
  go_simp
  go_at_call 96
  refine Calls.mono HB.out ?_
  rintro e w10 ⟨nb, rfl, hnb, hwc, hf10⟩
  refine Shut.out hK _ _ (HK.out _ (hf10.mono (fun _ _ f => f.elim))) ?_
  clear hK K
  intro hHeld2
  clear hHeld
  try simp only [List.getElem_toArray, List.getElem_cons_zero, List.getElem_cons_succ, Act.put, List.setIfInBounds_toArray, List.set_cons_zero, List.set_cons_succ]
  refine wpAnyH_ready (rs := [8]) (by kernel_rfl) (by simp) ?_
  refine AllReadyH.cons rfl (fun K hK => ?_) AllReadyH.nil
  go_simp
  go_at_call 95
  refine Calls.mono (HS.out _ _ hf10 hwc) ?_
  rintro e w11 ⟨hf11, ⟨fb, hfb, rfl, hwf⟩, hd11⟩
  exact ⟨rfl, rfl, fb, rfl, Nat.le_trans hf10.size hfb, hwf, ((Fr.refl _ W).drew.trans (hf10.mono (fun _ _ f => f.elim))).trans hf11, hd11⟩

/-- Records made sure of, one behind the other, on whatever disk. -/
def DiskM.appendG (d : DiskM) (ep ix : Nat) : List RecM → DiskM × Bool
  | [] => (d, true)
  | r :: rs => if (d.sureG ix (recBytes (placed r ep ix))).2 then (d.sureG ix (recBytes (placed r ep ix))).1.appendG ep (ix + 1) rs else ((d.sureG ix (recBytes (placed r ep ix))).1, false)
theorem appendG_snoc (d : DiskM) (ep ix : Nat) (l : List RecM) (r : RecM) (h : (d.appendG ep ix l).2 = true) :
    d.appendG ep ix (l ++ [r]) = (d.appendG ep ix l).1.sureG (ix + l.length) (recBytes (placed r ep (ix + l.length))) := by
  induction l generalizing d ix with
  | nil =>
    simp only [List.nil_append, DiskM.appendG, List.length_nil, Nat.add_zero]
    split
    · rename_i h1; exact Prod.ext rfl (by simp [h1])
    · rename_i h1; exact Prod.ext rfl (by simp at h1; simp [h1])
  | cons a l ih =>
    by_cases h1 : (d.sureG ix (recBytes (placed a ep ix))).2 = true
    · simp only [List.cons_append, DiskM.appendG, h1, if_true, List.length_cons] at h ⊢
      rw [ih _ _ h, show ix + 1 + l.length = ix + (l.length + 1) by omega]
    · simp [DiskM.appendG, h1] at h
theorem appendG_false (d : DiskM) (ep ix : Nat) (l m : List RecM) (h : (d.appendG ep ix l).2 = false) : d.appendG ep ix (l ++ m) = d.appendG ep ix l := by
  induction l generalizing d ix with
  | nil => simp [DiskM.appendG] at h
  | cons a l ih =>
    by_cases h1 : (d.sureG ix (recBytes (placed a ep ix))).2 = true
    · simp only [List.cons_append, DiskM.appendG, h1, if_true] at h ⊢
      exact ih _ _ h
    · simp [DiskM.appendG, h1]
theorem sureG_len (d : DiskM) (i : Nat) (l : List UInt8) : (d.sureG i l).1.blocks.length = d.blocks.length := by
  unfold DiskM.sureG
  split
  · rfl
  · split
    · rfl
    · exact sure_len d i l
theorem sureG_pend (d : DiskM) (i : Nat) (l : List UInt8) (h : (d.sureG i l).2 = true) : (d.sureG i l).1.pend = none := by
  unfold DiskM.sureG at h ⊢
  split at h
  · cases h
  · rename_i h1
    split at h
    · cases h
    · rename_i h2
      rw [if_neg h1, if_neg h2]; rfl
theorem appendG_len (d : DiskM) (ep ix : Nat) (l : List RecM) : (d.appendG ep ix l).1.blocks.length = d.blocks.length := by
  induction l generalizing d ix with
  | nil => rfl
  | cons a l ih =>
    simp only [DiskM.appendG]
    split
    · rw [ih, sureG_len]
    · exact sureG_len _ _ _
theorem appendG_pend (d : DiskM) (ep ix : Nat) (l : List RecM) (hp : d.pend = none) (h : (d.appendG ep ix l).2 = true) : (d.appendG ep ix l).1.pend = none := by
  induction l generalizing d ix with
  | nil => exact hp
  | cons a l ih =>
    by_cases h1 : (d.sureG ix (recBytes (placed a ep ix))).2 = true
    · simp only [DiskM.appendG, h1, if_true] at h ⊢
      exact ih _ _ (sureG_pend _ _ _ h1) h
    · simp [DiskM.appendG, h1] at h
theorem settle_pend' (j : JnM) (d : DiskM) (h : j.fresh = false → d.pend = none) : (settleD j d).pend = none := by
  unfold settleD; split
  · rfl
  · rename_i h1; exact h (by simpa using h1)
theorem settle_len' (j : JnM) (d : DiskM) : (settleD j d).blocks.length = d.blocks.length := by
  unfold settleD; split
  · simp only [DiskM.flush, DiskM.count]; split <;> simp
  · rfl
end Go.Proofs.YtkafmfdipmhleaaGreatDoor

namespace Go.Proofs.YtkafmfdipmhleaaGreatDoor
open Go.RowKit

def AppG (w : World) (jb db bb : Nat) (j : JnM) (d : DiskM) (rs : List RecM) (e : Ending) (w' : World) : Prop :=
  Fr (fun k => k = db ∨ k = bb ∨ k = jb) w w' ∧
    (j.fresh = true ∧ d.bad = true ∧ (∃ op, ErrP w op e w') ∧ DiskAt w' db bb d.count ∧ JnAt w' jb db j ∨
     (j.fresh = false ∨ d.bad = false) ∧ ((settleD j d).appendG j.epoch j.en rs).2 = true ∧ e = .returned .nilIface ∧ DiskAt w' db bb ((settleD j d).appendG j.epoch j.en rs).1 ∧ JnAt w' jb db ⟨j.epoch, j.en + rs.length, false⟩ ∨
     (j.fresh = false ∨ d.bad = false) ∧ ((settleD j d).appendG j.epoch j.en rs).2 = false ∧ (∃ op, ErrP w op e w') ∧ DiskAt w' db bb ((settleD j d).appendG j.epoch j.en rs).1 ∧ JnAt w' jb db { j with fresh := false })
set_option maxRecDepth 100000 in
set_option maxHeartbeats 4000000 in
theorem Append_gen {w : World} {jb db bb lb n cap : Nat} {j : JnM} {d : DiskM} {rs : List RecM} (hj : JnAt w jb db j) (h : DiskAt w db bb d) (hg : Handle w) (h0 : db ≠ 0 ∧ bb ≠ 0 ∧ jb ≠ 0) (hp : j.fresh = false → d.pend = none) (hl : RecsAt w lb rs) (hn : n = rs.length)
    (hep : j.epoch < 2 ^ 32) (hroom : j.en + rs.length ≤ d.blocks.length) (hb : d.blocks.length ≤ 1000) :
    Calls Tryz.prog 65 #[.pointer (some ⟨jb, 0, none⟩), .slice (some ⟨lb, 0, none⟩) n cap] w (AppG w jb db bb j d rs) := by
  have hmf : ∀ (fn : Fn) (first cap : Array Value) (w : World), (Instr.makeFunc fn first cap).run Tryz.prog w = .ok (.func fn first cap) w := fun _ _ _ _ => rfl
  have hne := jn_ne hj h
  have hlt := disk_lt h
  have hjl := lt_of_hp hj
  have hd1 := h.new ((Fr.refl _ w).alloc (.cells #[.nilIface] 32))
  have hj1 := heap_alloc_keep (.cells #[.nilIface] 32) hj
  have he1 := heap_alloc_new w (.cells #[.nilIface] 32)
  have hl1 := hl.frame (S := fun _ => False) ((Fr.refl _ w).alloc (.cells #[.nilIface] 32)) (fun _ f => f.elim)
  have hF1 : Fr (fun k => k = db ∨ k = bb ∨ k = jb) w (w.alloc (.cells #[.nilIface] 32)) := (Fr.refl _ w).alloc _
  have H0 := Lib.hid h0
  have hg1 : Handle (w.alloc (.cells #[.nilIface] 32)) := hg.new ((Fr.refl _ w).alloc _)
  have Hg1 := Lib.hid hg1
  have Hp := Lib.hid hp
  have Hep := Lib.hid hep
  have Hroom := Lib.hid hroom
  have Hb := Lib.hid hb
  have Hn := Lib.hid hn
  go_enter_defers Tryz.func65, Tryz.ntmps65
  go_upto_region 2 with fail
  have HE : Hid (w.heap.size ≠ db ∧ w.heap.size ≠ bb ∧ w.heap.size ≠ jb ∧ ¬ w.heap.size < w.heap.size) := ⟨by omega, by omega, by omega, by omega⟩
  have Hne := Lib.hid hne
  have HF1 := Lib.hid hF1
  have Hd1 := Lib.hid hd1
  have Hl1 := Lib.hid hl1
  have Hj1 := Lib.hid (show JnAt (w.alloc (.cells #[.nilIface] 32)) jb db j from hj1)
  clear h hj hne hlt hjl hd1 hF1 hg h0 hg1 hj1 hl1 hp hep hroom hb hn hl
  generalize w.alloc (.cells #[.nilIface] 32) = W1 at Hj1 he1 HF1 Hd1 Hl1 Hg1 ⊢
  generalize hE : w.heap.size = E at he1 HE ⊢
  have HEe := Lib.hid hE
  clear hE
  have hS1 : ∀ k, (k = db ∨ k = bb ∨ k = jb) → ∃ o, W1.heap[k]? = some o ∧ kindOf o ≠ 55 ∧ kindOf o ≠ 92 := by
    obtain ⟨_, _, _, _, h1, h2, _⟩ := Hd1.out
    rintro k (rfl | rfl | rfl)
    · exact ⟨_, h1, by simp [kindOf], by simp [kindOf]⟩
    · exact ⟨_, h2, by simp [kindOf], by simp [kindOf]⟩
    · exact ⟨_, Hj1.out, by simp [kindOf], by simp [kindOf]⟩
  have HS1 := Lib.hid hS1
  clear hS1
  go_upto_region 3 with (first
    | (go_at_call 50; refine Calls.mono (Settle_gen Hj1.out Hd1.out Hg1.out H0.out) ?_; rintro e w2 ⟨hf2, ⟨hcond, rfl, hd2, hj2⟩ | ⟨hfr, hbad, ⟨nb, hnb, rfl, hnbw⟩, hd2, hj2⟩⟩)
    | fail)
  rotate_left 1
  focus
    have he2 := hf2.get he1 (by have := HE.out; omega)
    have HF2 := Lib.hid (HF1.out.trans hf2)
    have Hd2 := Lib.hid hd2
    have Hj2 := Lib.hid hj2
    have Hc := Lib.hid (And.intro hfr hbad)
    have Hnb := Lib.hid hnb
    have Hnbw := Lib.hid hnbw
    have HEl := Lib.hid (lt_of_hp he1)
    clear hf2 hd2 hj2 hfr hbad hnb hnbw he1
    have hcv := cellv w2
    have hfv := frozv w2
    go_wp2_with fail
    refine leaves_cons (f := 94) (args := #[.pointer (some ⟨E, 0, none⟩)]) (by simp) (by simp [go_sem]) ?_
    refine (idle94 _ _).mono ?_
    rintro e u' w'' ⟨rfl, rfl, rfl⟩
    have hsome : (w2.setCell ⟨E, 0, none⟩ (.iface 121 (.pointer (some ⟨nb, 0, none⟩)))).cell? ⟨E, 0, none⟩ = some (.iface 121 (.pointer (some ⟨nb, 0, none⟩))) := by rw [cellv, hp_setCell, if_pos rfl, he2]; rfl
    refine ⟨.iface 121 (.pointer (some ⟨nb, 0, none⟩)), ?_, HF2.out.setCell (b := E) (fun h => absurd h (by rw [HEe.out]; omega)) 0 _, .inl ⟨Hc.out.1, Hc.out.2, ⟨setStr, nb, ?_, rfl, ?_⟩, ?_, ?_⟩⟩
    · simp [results, Tryz.results65, go_sem, hsome]
    · have := HF1.out.size; have := Hnb.out; omega
    · rw [hp_setCell, if_neg (by have := Hnb.out; have := HEl.out; omega)]; exact Hnbw.out
    · exact Hd2.out.frame (Fr.one E w2 0 _) (by rintro k rfl; exact ⟨HE.out.1, HE.out.2.1, _, he2, by simp [kindOf]⟩)
    · unfold JnAt
      rw [hp_setCell, if_neg (Ne.symm HE.out.2.2.1)]; exact Hj2.out
  go_upto_region 5 with fail
  have hl2 := Hl1.out.frame hf2 HS1.out
  have he2 := hf2.get he1 (by have := HE.out; omega)
  have HF2 := Lib.hid (HF1.out.trans hf2)
  have HE2 := Lib.hid he2
  have Hl2 := Lib.hid hl2
  have Hd2 := Lib.hid hd2
  have Hj2 := Lib.hid hj2
  have Hg2 := Lib.hid (Hg1.out.fr hf2 (by have := H0.out; omega))
  have Hcond := Lib.hid hcond
  clear hcond
  have hnl : Hid (rs.length < 2 ^ 40) := by
    have := Hroom.out; have := Hb.out; show _ < _; omega
  clear hf2 hd2 hj2 hl2 he2 he1
  go_wp2_with fail
  go_loopw [16] (fun i wr => ∃ k, k ≤ rs.length ∧ i = .int .i64 (k : Nat) ∧ ((settleD j d).appendG j.epoch j.en (rs.take k)).2 = true ∧ DiskAt wr db bb ((settleD j d).appendG j.epoch j.en (rs.take k)).1 ∧ Fr (fun k => k = db ∨ k = bb) w2 wr) (fun i _ => rs.length - (intOf i).toNat)
  case atStart => exact ⟨0, Nat.zero_le _, rfl, by simp [DiskM.appendG], by simpa [DiskM.appendG] using Hd2.out, Fr.refl _ _⟩
  case round =>
    obtain ⟨k, hk, rfl, hok1, hdk, hfk⟩ := hrel
    have Hok1 := Lib.hid hok1
    clear hok1
    have Hdk := Lib.hid hdk
    have Hfk := Lib.hid hfk
    have hjk := hfk.get Hj2.out (by have := Hne.out; omega)
    have hek := hfk.get HE2.out (by have := HE.out; omega)
    have Hekk := Lib.hid hek
    have Hjkk := Lib.hid hjk
    have hlk := Hl2.out.frame hfk (by
      obtain ⟨_, _, _, _, h1, h2, _⟩ := Hd2.out
      rintro k (rfl | rfl)
      · exact ⟨_, h1, by simp [kindOf], by simp [kindOf]⟩
      · exact ⟨_, h2, by simp [kindOf], by simp [kindOf]⟩)
    clear hdk hfk
    by_cases hkn : k < rs.length
    · obtain ⟨hok, lc, hlb, hrec⟩ := hlk
      obtain ⟨sv, ⟨sa, sm, sc, rfl⟩, hst, hcells⟩ := hrec k rs[k] (by simp [hkn])
      have hokr := hok rs[k] (List.getElem_mem hkn)
      have htk : rs.take (k + 1) = rs.take k ++ [rs[k]] := List.take_succ_eq_append_getElem hkn
      generalize rs[k] = r at hst hcells hokr htk
      have Hok := Lib.hid hokr
      have Htk := Lib.hid htk
      have hrow : ∀ q v, ([.int .u8 r.kind, .int .u32 r.epoch, .int .i64 r.index, .int .i64 r.saga, .int .i64 r.reply, .slice sa sm sc] : List Value)[q]? = some v → cellOf wr.heap[lb]? (k * 6 + q) = some v := by
        intro q v hq
        have hq6 : q < 6 := by simpa using (List.getElem?_eq_some_iff.1 hq).1
        rw [hlb, cellOf_cells, hcells q hq6]
        simpa [rcells] using hq
      obtain ⟨d9, hu9, hr9⟩ := isRow_of (ty := 91) (by kernel_rfl)
      have Hrow := Lib.hid hrow
      have Hst := Lib.hid hst
      have Hkn := Lib.hid hkn
      clear hrow hcells hlb hrec hok hokr htk hst
      have hkl : (k : Int) < rs.length := by omega
      have hcv := cellv wr
      clear hkn
      go_upto_region 8 with (first
        | (refine wpl_load rfl 91 (.tmp 19) rfl lb (k * 6) rfl _ d9 Hrow.out hu9 hr9 Tryz.info91s ?_)
        | fail)
      have hr8 := heap_alloc_new wr (.cells #[.int .u8 r.kind, .int .u32 r.epoch, .int .i64 r.index, .int .i64 r.saga, .int .i64 r.reply, .slice sa sm sc] 91)
      have hj8 := heap_alloc_keep (.cells #[.int .u8 r.kind, .int .u32 r.epoch, .int .i64 r.index, .int .i64 r.saga, .int .i64 r.reply, .slice sa sm sc] 91) hjk
      have HF8 := Lib.hid ((Fr.refl (fun _ => False) wr).alloc (.cells #[.int .u8 r.kind, .int .u32 r.epoch, .int .i64 r.index, .int .i64 r.saga, .int .i64 r.reply, .slice sa sm sc] 91))
      clear hcv hek
      have HW8 := Lib.hid (rfl : wr.heap.size = wr.heap.size)
      have HRd : wr.heap.size ≠ db ∧ wr.heap.size ≠ bb := by
        have := disk_lt Hdk.out
        omega
      have HRb : ∀ k, k < wr.heap.size → ¬ k = wr.heap.size := fun k h e => by omega
      generalize wr.alloc (.cells #[.int .u8 r.kind, .int .u32 r.epoch, .int .i64 r.index, .int .i64 r.saga, .int .i64 r.reply, .slice sa sm sc] 91) = W8 at hr8 hj8 HF8 ⊢
      generalize hR : wr.heap.size = R at hr8 HRd HRb HW8 ⊢
      have HR := Lib.hid hR
      have HRd := Lib.hid HRd
      have HRb := Lib.hid HRb
      clear hR
      refine app_r8 jb db R ⟨j.epoch, j.en, false⟩ r.kind r.epoch r.index r.saga r.reply k (.slice sa sm sc) W8 hj8 hr8 ?_ ?_
      · have := Hroom.out; have := Hb.out; have := Hkn.out
        exact ⟨by show j.en ≤ 1000; omega, by omega⟩
      intro y21 y22 y23 y24 y25 y26 y27 y28 y29 y30 y31 y32 W9 hf9 hr9'
      have HF9 := Lib.hid (HF8.out.trans' hf9 (by rintro i hi e; rw [e] at hi; exact HRb.out R (by rw [HR.out] at hi; exact hi) rfl))
      have hj9 := hf9.get hj8 (by rintro rfl; rw [hj8] at hr8; simp at hr8)
      clear hr8 hj8 HF8 hf9
      go_upto_region 9 with fail
      have hix : j.en + k < 65536 := by have := Hroom.out; have := Hb.out; have := Hkn.out; omega
      have hsn := appendG_snoc (settleD j d) j.epoch j.en (rs.take k) r Hok1.out
      rw [← Htk.out, show (rs.take k).length = k by rw [List.length_take]; have := Hkn.out; omega] at hsn
      have hpd := appendG_pend (settleD j d) j.epoch j.en (rs.take k) (settle_pend' j d Hp.out) Hok1.out
      have hil : j.en + k < ((settleD j d).appendG j.epoch j.en (rs.take k)).1.blocks.length := by
        rw [appendG_len, settle_len' j d]
        have := Hroom.out; have := Hkn.out
        omega
      have Hsn := Lib.hid hsn
      have Hpd := Lib.hid hpd
      have Hil := Lib.hid hil
      clear hsn hpd hil
      rcases hb2 : (((settleD j d).appendG j.epoch j.en (rs.take k)).1.sureG (j.en + k) (recBytes (placed r j.epoch (j.en + k)))).2 with _ | _
      · refine app_g9bad jb db bb R (j.en + k) ⟨j.epoch, j.en, false⟩ ((settleD j d).appendG j.epoch j.en (rs.take k)).1 (placed r j.epoch (j.en + k)) sa sm sc W9 Hne.out HRd.out hj9 hr9'
          (fun h2 => (Hst.out h2).frame HF9.out (fun _ f => f.elim)) (Hok.out j.epoch (j.en + k) Hep.out hix) (Hdk.out.new HF9.out) Hpd.out rfl Hil.out hb2 ?_
        intro a' w11 fb hds h4 hfb hwf hf11 hd11
        change Leaves Tryz.prog Tryz.f65 a'.tmps (AppG w jb db bb j d rs) a'.defers (thrownF fb false) w11
        rw [hds]
        have hfr : Fr (fun k => k = db ∨ k = bb) wr w11 := (HF9.out.mono (fun _ _ f => f.elim)).trans hf11
        have hek11 := hfr.get Hekk.out (by rintro (e | e); exact HE.out.1 e; exact HE.out.2.1 e)
        have hjk11 := hfr.get Hjkk.out (by have := Hne.out; omega)
        have hfrk := Hfk.out.trans hfr
        have hg11 := Hg2.out.fr hfrk (by have := H0.out; omega)
        refine leaves_cons (f := 94) (args := #[.pointer (some ⟨E, 0, none⟩)]) (by simp [thrownF]) (by simp [go_sem]) ?_
        refine (told94 hg11 hwf hek11).mono ?_
        rintro e u' w'' ⟨rfl, rfl, hF, nb, hnb, hnb2, heb⟩
        have hsome : w''.cell? ⟨E, 0, none⟩ = some (.iface 121 (.pointer (some ⟨nb, 0, none⟩))) := by rw [cellv, heb]; rfl
        have hFr := (HF2.out.trans (hfrk.mono (fun k _ e => e.elim .inl (fun e => .inr (.inl e))))).trans' hF (fun i hi e => absurd hi (by rw [HEe.out]; omega))
        have hfl : ((settleD j d).appendG j.epoch j.en rs) = ((settleD j d).appendG j.epoch j.en (rs.take k)).1.sureG (j.en + k) (recBytes (placed r j.epoch (j.en + k))) := by
          have := appendG_false (settleD j d) j.epoch j.en (rs.take (k + 1)) (rs.drop (k + 1)) (by rw [Hsn.out]; exact hb2)
          rw [List.take_append_drop] at this
          rw [this, Hsn.out]
        refine ⟨.iface 121 (.pointer (some ⟨nb, 0, none⟩)), ?_, hFr, .inr (.inr ⟨Hcond.out, by rw [hfl]; exact hb2, ⟨appStr, nb, ?_, rfl, hnb2⟩, ?_, ?_⟩)⟩
        · simp [results, Tryz.results65, go_sem, h4, hsome]
        · have := (HF2.out.trans (hfrk.mono (fun k _ e => e.elim .inl (fun e => .inr (.inl e))))).size
          omega
        · rw [hfl]
          exact hd11.frame hF (by rintro k rfl; exact ⟨HE.out.1, HE.out.2.1, _, hek11, by simp [kindOf]⟩)
        · exact hF.get hjk11 (fun e => HE.out.2.2.1 e.symm)
      · refine app_g9ok jb db bb R (j.en + k) ⟨j.epoch, j.en, false⟩ ((settleD j d).appendG j.epoch j.en (rs.take k)).1 (placed r j.epoch (j.en + k)) sa sm sc W9 Hne.out HRd.out hj9 hr9'
          (fun h2 => (Hst.out h2).frame HF9.out (fun _ f => f.elim)) (Hok.out j.epoch (j.en + k) Hep.out hix) (Hdk.out.new HF9.out) Hpd.out rfl Hil.out hb2 ?_
        intro y33 y34 y35 y36 y37 y38 y39 y40 y41 w11 hf11 hd11
        have hb2' := Lib.hid hb2
        clear hr9' hj9 hb2
        go_wp2_with fail
        go_roundw
        case rel =>
          refine ⟨k + 1, Hkn.out, by go_num, by rw [Hsn.out]; exact hb2'.out, ?_, (Hfk.out.trans (HF9.out.mono (fun _ _ f => f.elim))).trans hf11⟩
          rw [Hsn.out]
          exact hd11
        case measure => have := Hkn.out; simp [intOf]; omega
    · have hkl : Hid (k = rs.length) := by show _ = _; omega
      have Hjk := Lib.hid hjk
      have Hek := Lib.hid hek
      clear hlk hjk hek
      have hnk : ¬ (k : Int) < rs.length := by omega
      go_upto_region 11 with fail
      have hjc := Hjk.out
      have hec := Hek.out
      simp only [jnCells] at hjc
      have hcv := cellv wr
      have hfv := frozv wr
      have hsum : wrap64 ((j.en : Int) + (rs.length : Int)) = (j.en : Int) + (rs.length : Int) := by
        have := Hroom.out; have := Hb.out
        exact wrap_in _ (by omega)
      go_upto_region 12 with fail
      have hj9 : (wr.setCell ⟨jb, 2, none⟩ (.int .i64 ((j.en : Int) + (rs.length : Int)))).heap[jb]? = some (.cells (jnCells db ⟨j.epoch, j.en + rs.length, false⟩) 132 (0, 0)) := by
        rw [hp_setCell, if_pos rfl, hjc]; simp [jnCells]
      have he9 : (wr.setCell ⟨jb, 2, none⟩ (.int .i64 ((j.en : Int) + (rs.length : Int)))).heap[E]? = some (.cells #[.nilIface] 32 (0, 0)) := by
        rw [hp_setCell, if_neg HE.out.2.2.1]; exact hec
      have Hd9 := Lib.hid (Hdk.out.frame (Fr.one jb wr 2 (.int .i64 ((j.en : Int) + (rs.length : Int)))) (by rintro k rfl; exact ⟨Hne.out.1, Hne.out.2, _, hjc, by simp [kindOf]⟩))
      have HF9 := Lib.hid ((HF2.out.trans (Hfk.out.mono (fun k _ e => e.elim .inl (fun e => .inr (.inl e))))).setCell (b := jb) (fun _ => .inr (.inr rfl)) 2 (.int .i64 ((j.en : Int) + (rs.length : Int))))
      have Hj9 := Lib.hid hj9
      clear hcv hfv hjc hec hj9
      generalize wr.setCell ⟨jb, 2, none⟩ (.int .i64 ((j.en : Int) + (rs.length : Int))) = W9 at he9 Hd9 HF9 Hj9 ⊢
      have hcv := cellv W9
      have hfv := frozv W9
      go_wp2_with fail
      refine leaves_cons (f := 94) (args := #[.pointer (some ⟨E, 0, none⟩)]) (by simp) (by simp [go_sem]) ?_
      refine (idle94 _ _).mono ?_
      rintro e u' w'' ⟨rfl, rfl, rfl⟩
      have hsome : (W9.setCell ⟨E, 0, none⟩ Value.nilIface).cell? ⟨E, 0, none⟩ = some .nilIface := by rw [cellv, hp_setCell, if_pos rfl, he9]; rfl
      refine ⟨.nilIface, ?_, HF9.out.setCell (b := E) (fun h => absurd h (by rw [HEe.out]; omega)) 0 .nilIface, .inr (.inl ⟨Hcond.out, by have := Hok1.out; rw [hkl.out, List.take_length] at this; exact this, rfl, ?_, ?_⟩)⟩
      · simp [results, Tryz.results65, go_sem, hsome]
      · have := Hd9.out.frame (Fr.one E W9 0 .nilIface) (by rintro k rfl; exact ⟨HE.out.1, HE.out.2.1, _, he9, by simp [kindOf]⟩)
        rw [hkl.out, List.take_length] at this
        exact this
      · unfold JnAt
        rw [hp_setCell, if_neg (Ne.symm HE.out.2.2.1)]; exact Hj9.out
end Go.Proofs.YtkafmfdipmhleaaGreatDoor

namespace Go.Proofs.YtkafmfdipmhleaaGreatDoor
open Go.RowKit Go.Maps

/-- What an Append makes of a disk; was no error told? -/
def DiskM.appendA (d : DiskM) (j : JnM) (rs : List RecM) : DiskM × Bool := if j.fresh = true ∧ d.bad = true then (d.count, false) else (settleD j d).appendG j.epoch j.en rs
theorem AppG.short {w : World} {jb db bb : Nat} {j : JnM} {d : DiskM} {rs : List RecM} {e : Ending} {w' : World} (h : AppG w jb db bb j d rs e w') :
    Fr (fun k => k = db ∨ k = bb ∨ k = jb) w w' ∧
      ((d.appendA j rs).2 = true ∧ e = .returned .nilIface ∧ DiskAt w' db bb (d.appendA j rs).1 ∧ JnAt w' jb db ⟨j.epoch, j.en + rs.length, false⟩ ∨
       (d.appendA j rs).2 = false ∧ (∃ op, ErrP w op e w') ∧ DiskAt w' db bb (d.appendA j rs).1) := by
  obtain ⟨hf, ⟨h1, h2, h3, h4, _⟩ | ⟨h1, h2, h3, h4, h5⟩ | ⟨h1, h2, h3, h4, _⟩⟩ := h
  · refine ⟨hf, .inr ?_⟩
    unfold DiskM.appendA
    rw [if_pos ⟨h1, h2⟩]
    exact ⟨rfl, h3, h4⟩
  · refine ⟨hf, .inl ?_⟩
    unfold DiskM.appendA
    rw [if_neg (by rintro ⟨a, b⟩; rcases h1 with h1 | h1 <;> simp_all)]
    exact ⟨h2, h3, h4, h5⟩
  · refine ⟨hf, .inr ?_⟩
    unfold DiskM.appendA
    rw [if_neg (by rintro ⟨a, b⟩; rcases h1 with h1 | h1 <;> simp_all)]
    exact ⟨h2, h3, h4⟩
def WriteG (w : World) (xb jb db bb mb : Nat) (pause clock : Int) (cv : Value) (j : JnM) (d : DiskM) (rs : List RecM) (e : Ending) (w' : World) : Prop :=
  Fr (fun k => k = db ∨ k = bb ∨ k = jb ∨ k = xb) w w' ∧
    ((d.appendA j rs).2 = true ∧ e = .returned .nilIface ∧ DiskAt w' db bb (d.appendA j rs).1 ∧ JnAt w' jb db ⟨j.epoch, j.en + rs.length, false⟩ ∧ w'.heap[xb]? = some (.cells (egCells jb mb pause cv clock false) 79 (0, 0)) ∨
     (d.appendA j rs).2 = false ∧ (∃ op nb, w.heap.size ≤ nb ∧ e = .returned (.iface 121 (.pointer (some ⟨nb, 0, none⟩))) ∧ w'.heap[nb]? = some (.cells (faultCells op 5) 123 (0, 0))) ∧ DiskAt w' db bb (d.appendA j rs).1 ∧ w'.heap[xb]? = some (.cells (egCells jb mb pause cv clock true) 79 (0, 0)))
set_option maxRecDepth 100000 in
set_option maxHeartbeats 4000000 in
theorem write_gen {w : World} {xb jb db bb mb lb n cap : Nat} {pause clock : Int} {cv : Value} {j : JnM} {d : DiskM} {rs : List RecM}
    (hx : w.heap[xb]? = some (.cells (egCells jb mb pause cv clock false) 79 (0, 0))) (hj : JnAt w jb db j) (h : DiskAt w db bb d) (hg : Handle w) (h0 : db ≠ 0 ∧ bb ≠ 0 ∧ jb ≠ 0) (hp : j.fresh = false → d.pend = none) (hl : RecsAt w lb rs) (hn : n = rs.length)
    (hep : j.epoch < 2 ^ 32) (hroom : j.en + rs.length ≤ d.blocks.length) (hb : d.blocks.length ≤ 1000) :
    Calls Tryz.prog 46 #[.pointer (some ⟨xb, 0, none⟩), .slice (some ⟨lb, 0, none⟩) n cap] w (WriteG w xb jb db bb mb pause clock cv j d rs) := by
  have hxne : xb ≠ db ∧ xb ≠ bb ∧ xb ≠ jb := by
    obtain ⟨_, _, _, _, h1, h2, _⟩ := h
    exact ⟨ne_of_kind hx h1 (by simp [kindOf]), ne_of_kind hx h2 (by simp [kindOf]), ne_of_kind hx hj (by simp [kindOf])⟩
  have HA := Lib.hid (Calls.mono (Append_gen (cap := cap) hj h hg h0 hp hl hn hep hroom hb) (fun _ _ h => h.short))
  have Hne := Lib.hid hxne
  have Hx := Lib.hid hx
  have Hxl := Lib.hid (lt_of_hp hx)
  simp only [egCells] at hx
  clear h hj hg h0 hp hl hn hep hroom hb hxne
  have hcv := cellv w
  go_enter Tryz.func46, Tryz.ntmps46
  go_upto_region 2 with (first
    | (go_at_call 65; refine Calls.mono HA.out ?_; rintro e w2 ⟨hf2, ⟨hok, rfl, hd2, hj2⟩ | ⟨hok, ⟨op, nb, hnb, rfl, hnbw⟩, hd2⟩⟩)
    | fail)
  · have hx2 := hf2.get Hx.out (by have := Hne.out; omega)
    have Hf2 := Lib.hid hf2
    have Hd2 := Lib.hid hd2
    have Hj2 := Lib.hid hj2
    have Hx2 := Lib.hid hx2
    have Hok := Lib.hid hok
    simp only [egCells] at hx2
    clear hcv hx hf2 hd2 hj2 hok
    have hcv := cellv w2
    have hfv := frozv w2
    go_wp2_with fail
    go_ret
    have hs : Fr (· = xb) w2 (w2.setCell ⟨xb, 5, none⟩ (.bool false)) := Fr.one _ _ _ _
    have hK : ∀ k, k = xb → k ≠ db ∧ k ≠ bb ∧ ∃ o, w2.heap[k]? = some o ∧ kindOf o ≠ 108 := by rintro k rfl; exact ⟨Hne.out.1, Hne.out.2.1, _, hx2, by simp [kindOf]⟩
    refine ⟨(Hf2.out.mono (fun k _ e => by rcases e with e | e | e <;> simp [e])).setCell (b := xb) (fun _ => .inr (.inr (.inr rfl))) 5 _, .inl ⟨Hok.out, rfl, Hd2.out.frame hs hK, ?_, ?_⟩⟩
    · exact hs.get Hj2.out (fun e => Hne.out.2.2 e.symm)
    · rw [hp_setCell, if_pos rfl, Hx2.out]; simp [egCells]
  · have hx2 := hf2.get Hx.out (by have := Hne.out; omega)
    have Hf2 := Lib.hid hf2
    have Hd2 := Lib.hid hd2
    have Hx2 := Lib.hid hx2
    have Hok := Lib.hid hok
    have Hnb := Lib.hid hnb
    have Hnbw := Lib.hid hnbw
    simp only [egCells] at hx2
    clear hcv hx hf2 hd2 hok hnb hnbw
    have hcv := cellv w2
    have hfv := frozv w2
    go_wp2_with fail
    go_ret
    have hs : Fr (· = xb) w2 (w2.setCell ⟨xb, 5, none⟩ (.bool true)) := Fr.one _ _ _ _
    have hK : ∀ k, k = xb → k ≠ db ∧ k ≠ bb ∧ ∃ o, w2.heap[k]? = some o ∧ kindOf o ≠ 108 := by rintro k rfl; exact ⟨Hne.out.1, Hne.out.2.1, _, hx2, by simp [kindOf]⟩
    refine ⟨(Hf2.out.mono (fun k _ e => by rcases e with e | e | e <;> simp [e])).setCell (b := xb) (fun _ => .inr (.inr (.inr rfl))) 5 _, .inr ⟨Hok.out, ⟨op, nb, Hnb.out, rfl, ?_⟩, Hd2.out.frame hs hK, ?_⟩⟩
    · rw [hp_setCell, if_neg (by have := Hnb.out; have := Hxl.out; omega)]; exact Hnbw.out
    · rw [hp_setCell, if_pos rfl, Hx2.out]; simp [egCells]
end Go.Proofs.YtkafmfdipmhleaaGreatDoor
