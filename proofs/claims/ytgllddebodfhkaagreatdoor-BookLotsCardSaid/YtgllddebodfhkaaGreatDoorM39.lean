/- errors.As at a fault with a place and at a sentinel, the target a variable of type *api.Fault. plain.Code: an error's number and place. -/
import Derived.LoopTactic
import Derived.Outline
import Derived.Test.YtgllddebodfhkaaGreatDoorM38
namespace Go.Proofs.YtgllddebodfhkaaGreatDoor
open Go.RowKit Go.Extern.Stop Go.Stop Go.Extern

/-! ### CLOSED FACTS ON THE MODEL's ENTRIES FOR internal/reflectlite, at this program's types: 25: *p.E · 27: **p.E · 23: error · 45: reflectlite's rtype · 1: how many package-level variables the dump has -/
theorem as_valueOf27 (t : Addr) (w : World) : (ReflectliteValue.unpack (.iface 179 (.pointer (some t)))).run Tryz.prog w
    = .ok (.agg #[.pointer (some ⟨21, 179, none⟩), .pointer (some ⟨w.heap.size, 0, none⟩), .int .u64 150]) (w.alloc (.cells #[.pointer (some t)] 179)) := by kernel_rfl
theorem as_type27 (a : Addr) (w : World) : (ReflectliteValue.methodAny (ReflectliteValue.valueError "reflectlite.Value.Type" 0) (fun t _ _ _ => ReflectliteType.toType t) #[.agg #[.pointer (some ⟨21, 179, none⟩), .pointer (some a), .int .u64 150]]).run Tryz.prog w
    = .ok (.iface 240 (.agg #[.pointer (some ⟨21, 179, none⟩)])) w := by kernel_rfl
theorem as_methodKind (h : Value) (w : World) : (Go.method 441 240 (.agg #[h]) "Kind").run Tryz.prog w = .ok (260, h) w := by kernel_rfl
theorem as_kind27 (w : World) : ((ReflectliteType.abiMethod fun t => (fun a : Nat => Value.int IntKind.u8 (a : Int)) <$> Rtype.kind t) #[.pointer (some ⟨21, 179, none⟩)]).run Tryz.prog w = .ok (.int .u8 22) w := by kernel_rfl
theorem as_kind25 (w : World) : ((ReflectliteType.abiMethod fun t => (fun a : Nat => Value.int IntKind.u8 (a : Int)) <$> Rtype.kind t) #[.pointer (some ⟨21, 133, none⟩)]).run Tryz.prog w = .ok (.int .u8 22) w := by kernel_rfl

/-! ### THE ENTRIES THAT READ OR WRITE MEMORY: laws with a premise on the cell (after Derived/Lib/ReflectliteSlice.lean's manner: each unfolding a lemma of its own, by rfl) -/
theorem rlm (z : Sem Value) (f : TypeId → Addr → Nat → Nat → Sem Value) (v : Value) :
    ReflectliteValue.method z f #[v] = (do match ← ReflectliteValue.parts v with | none => z | some (t, a, fl) => f t a fl (fl % 32)) := rfl
theorem as_parts27 (a : Addr) (w : World) : (ReflectliteValue.parts (.agg #[.pointer (some ⟨21, 179, none⟩), .pointer (some a), .int .u64 150])).run Tryz.prog w = .ok (some (179, a, 150)) w := by kernel_rfl
/-- (Value).IsNil at the Value of a **p.E that is not nil. -/
theorem as_isNil27 (a p : Addr) (W : World) (ha : W.cell? a = some (.pointer (some p))) :
    (ReflectliteValue.method (ReflectliteValue.valueError "reflectlite.Value.IsNil" 0) ReflectliteValue.isNil #[.agg #[.pointer (some ⟨21, 179, none⟩), .pointer (some a), .int .u64 150]]).run Tryz.prog W = .ok (.bool false) W := by
  rw [rlm]
  simp only [Sem.run_bind, as_parts27, Result.andThen]
  simp [ReflectliteValue.isNil, loadVar, isAgg, underlying, Tryz.underlying179, ha, Result.andThen]

theorem as_methodElem (h : Value) (w : World) : (Go.method 441 240 (.agg #[h]) "Elem").run Tryz.prog w = .ok (273, .agg #[h]) w := by kernel_rfl
theorem as_methodImplements (h : Value) (w : World) : (Go.method 441 240 (.agg #[h]) "Implements").run Tryz.prog w = .ok (274, .agg #[h]) w := by kernel_rfl
theorem as_methodAssignableTo (h : Value) (w : World) : (Go.method 441 240 (.agg #[h]) "AssignableTo").run Tryz.prog w = .ok (271, .agg #[h]) w := by kernel_rfl
theorem as_elem27 (w : World) : (ReflectliteType.method ReflectliteType.elem #[.agg #[.pointer (some ⟨21, 179, none⟩)]]).run Tryz.prog w = .ok (.iface 240 (.agg #[.pointer (some ⟨21, 133, none⟩)])) w := by kernel_rfl
theorem as_implements25 (w : World) : (ReflectliteType.relation "Implements" ReflectliteType.implements_ #[.agg #[.pointer (some ⟨21, 133, none⟩)], .iface 240 (.agg #[.pointer (some ⟨21, 31, none⟩)])]).run Tryz.prog w = .ok (.bool true) w := by kernel_rfl
theorem as_typeOf25 (v : Value) (w : World) : (ReflectliteType.typeOf #[.iface 133 v]).run Tryz.prog w = .ok (.iface 240 (.agg #[.pointer (some ⟨21, 133, none⟩)])) w := by kernel_rfl
theorem as_assignable25 (w : World) : (ReflectliteType.relation "AssignableTo" ReflectliteType.assignableTo #[.agg #[.pointer (some ⟨21, 133, none⟩)], .iface 240 (.agg #[.pointer (some ⟨21, 133, none⟩)])]).run Tryz.prog w = .ok (.bool true) w := by kernel_rfl
theorem as_valueOf25 (e : Addr) (w : World) : (ReflectliteValue.unpack (.iface 133 (.pointer (some e)))).run Tryz.prog w
    = .ok (.agg #[.pointer (some ⟨21, 133, none⟩), .pointer (some ⟨w.heap.size, 0, none⟩), .int .u64 150]) (w.alloc (.cells #[.pointer (some e)] 133)) := by kernel_rfl

theorem as_elemOf27 (w : World) : (Rtype.elem? 179).run Tryz.prog w = .ok (some 133) w := by kernel_rfl
theorem as_mk25 (p : Addr) (w : World) : (ReflectliteValue.mk 133 p ReflectliteValue.flagAddr).run Tryz.prog w = .ok (.agg #[.pointer (some ⟨21, 133, none⟩), .pointer (some p), .int .u64 406]) w := by kernel_rfl
/-- (Value).Elem at the Value of a **p.E that is not nil: the Value of the *p.E variable that it points to, addressable. -/
theorem as_elemV27 (a p : Addr) (W : World) (ha : W.cell? a = some (.pointer (some p))) :
    (ReflectliteValue.method (ReflectliteValue.valueError "reflectlite.Value.Elem" 0) ReflectliteValue.elem #[.agg #[.pointer (some ⟨21, 179, none⟩), .pointer (some a), .int .u64 150]]).run Tryz.prog W
      = .ok (.agg #[.pointer (some ⟨21, 133, none⟩), .pointer (some p), .int .u64 406]) W := by
  rw [rlm]
  simp only [Sem.run_bind, as_parts27, Result.andThen]
  simp [ReflectliteValue.elem, loadVar, isAgg, underlying, Tryz.underlying179, ha, Result.andThen, as_elemOf27, as_mk25]
theorem rls (v x : Value) : ReflectliteValue.set #[v, x] = (do
    let (some (dst, a, fl), some (src, b, _)) := (← ReflectliteValue.parts v, ← ReflectliteValue.parts x)
      | unsupported (.noEntry "extern/(internal/reflectlite.Value).Set.zeroValue")
    if fl / ReflectliteValue.flagAddr % 2 == 0 then unsupported (.noEntry "extern/(internal/reflectlite.Value).Set.unaddressable")
    let val ← loadVar src b
    if ← Rtype.directlyAssignable dst src then storeVar dst a val
    else if ← Rtype.implements dst src then
      if (← Rtype.kind src) == 20 then
        match val with
        | .nilIface => unsupported (.noEntry "extern/reflectlite: a nil value of one interface type handed on as a value of another")
        | _ => storeVar dst a val
      else storeVar dst a (.iface src val)
    else panicString ("reflectlite.Set: value of type " ++ (← Rtype.spelt src) ++ " is not assignable to type " ++ (← Rtype.spelt dst))
    pure (.tuple #[])) := rfl
theorem as_parts25a (a : Addr) (w : World) : (ReflectliteValue.parts (.agg #[.pointer (some ⟨21, 133, none⟩), .pointer (some a), .int .u64 406])).run Tryz.prog w = .ok (some (133, a, 406)) w := by kernel_rfl
theorem as_parts25 (a : Addr) (w : World) : (ReflectliteValue.parts (.agg #[.pointer (some ⟨21, 133, none⟩), .pointer (some a), .int .u64 150])).run Tryz.prog w = .ok (some (133, a, 150)) w := by kernel_rfl
theorem as_direct25 (w : World) : (Rtype.directlyAssignable 133 133).run Tryz.prog w = .ok true w := by kernel_rfl
theorem as_size25 (w : World) : (sizeOf 133).run Tryz.prog w = .ok 1 w := by kernel_rfl
/-- (Value).Set: the *p.E variable at 'ta' gets what the Value's own variable 'b' holds. -/
theorem as_set25 (ta b e : Addr) (old : Value) (W : World) (hb : W.cell? b = some (.pointer (some e))) (ht : W.cell? ta = some old) (hf : W.frozen? ta = false) :
    (ReflectliteValue.set #[.agg #[.pointer (some ⟨21, 133, none⟩), .pointer (some ta), .int .u64 406], .agg #[.pointer (some ⟨21, 133, none⟩), .pointer (some b), .int .u64 150]]).run Tryz.prog W
      = .ok (.tuple #[]) (W.setCell ta (.pointer (some e))) := by
  rw [rls]
  simp only [Sem.run_bind, as_parts25a, as_parts25, Result.andThen]
  simp [ReflectliteValue.flagAddr, loadVar, isAgg, underlying, Tryz.underlying133, hb, Result.andThen, as_direct25, storeVar, Value.cells, storeCells, Addr.add]
  rw [run_store Tryz.prog W ta _ _ (by rfl)]
  simp [ht, hf]

theorem ex_h6 : ∀ (args : Array Value) (w : World), (callFunc 141 args).run Tryz.prog w = (((fun args => ReflectliteValue.unpack (args.getD 0 (.tuple #[]))) args).run Tryz.prog w).andThen fun v w' => .ok (.value v) w' :=
  @run_callFunc_extern Tryz.prog 141 _ (fun args => ReflectliteValue.unpack (args.getD 0 (.tuple #[]))) Tryz.func141 (by kernel_rfl) (by kernel_rfl) (by kernel_rfl) (by kernel_rfl)
theorem ex_h7 : ∀ (args : Array Value) (w : World), (callFunc 142 args).run Tryz.prog w = (((ReflectliteValue.methodAny (ReflectliteValue.valueError "reflectlite.Value.Type" 0) (fun t _ _ _ => ReflectliteType.toType t)) args).run Tryz.prog w).andThen fun v w' => .ok (.value v) w' :=
  @run_callFunc_extern Tryz.prog 142 _ (ReflectliteValue.methodAny (ReflectliteValue.valueError "reflectlite.Value.Type" 0) (fun t _ _ _ => ReflectliteType.toType t)) Tryz.func142 (by kernel_rfl) (by kernel_rfl) (by kernel_rfl) (by kernel_rfl)
theorem ex_h8 : ∀ (args : Array Value) (w : World), (callFunc 143 args).run Tryz.prog w = (((ReflectliteValue.method (ReflectliteValue.valueError "reflectlite.Value.IsNil" 0) ReflectliteValue.isNil) args).run Tryz.prog w).andThen fun v w' => .ok (.value v) w' :=
  @run_callFunc_extern Tryz.prog 143 _ (ReflectliteValue.method (ReflectliteValue.valueError "reflectlite.Value.IsNil" 0) ReflectliteValue.isNil) Tryz.func143 (by kernel_rfl) (by kernel_rfl) (by kernel_rfl) (by kernel_rfl)
theorem ex_h27 : ∀ (args : Array Value) (w : World), (callFunc 260 args).run Tryz.prog w = (((ReflectliteType.abiMethod fun t => do pure (.int .u8 (← Rtype.kind t))) args).run Tryz.prog w).andThen fun v w' => .ok (.value v) w' :=
  @run_callFunc_extern Tryz.prog 260 _ (ReflectliteType.abiMethod fun t => do pure (.int .u8 (← Rtype.kind t))) Tryz.func260 (by kernel_rfl) (by kernel_rfl) (by kernel_rfl) (by kernel_rfl)
theorem ex_h37 : ∀ (args : Array Value) (w : World), (callFunc 273 args).run Tryz.prog w = (((ReflectliteType.method ReflectliteType.elem) args).run Tryz.prog w).andThen fun v w' => .ok (.value v) w' :=
  @run_callFunc_extern Tryz.prog 273 _ (ReflectliteType.method ReflectliteType.elem) Tryz.func273 (by kernel_rfl) (by kernel_rfl) (by kernel_rfl) (by kernel_rfl)
theorem ex_h38 : ∀ (args : Array Value) (w : World), (callFunc 274 args).run Tryz.prog w = (((ReflectliteType.relation "Implements" ReflectliteType.implements_) args).run Tryz.prog w).andThen fun v w' => .ok (.value v) w' :=
  @run_callFunc_extern Tryz.prog 274 _ (ReflectliteType.relation "Implements" ReflectliteType.implements_) Tryz.func274 (by kernel_rfl) (by kernel_rfl) (by kernel_rfl) (by kernel_rfl)
theorem ex_h35 : ∀ (args : Array Value) (w : World), (callFunc 271 args).run Tryz.prog w = (((ReflectliteType.relation "AssignableTo" ReflectliteType.assignableTo) args).run Tryz.prog w).andThen fun v w' => .ok (.value v) w' :=
  @run_callFunc_extern Tryz.prog 271 _ (ReflectliteType.relation "AssignableTo" ReflectliteType.assignableTo) Tryz.func271 (by kernel_rfl) (by kernel_rfl) (by kernel_rfl) (by kernel_rfl)
theorem ex_h11 : ∀ (args : Array Value) (w : World), (callFunc 178 args).run Tryz.prog w = (((ReflectliteValue.method (ReflectliteValue.valueError "reflectlite.Value.Elem" 0) ReflectliteValue.elem) args).run Tryz.prog w).andThen fun v w' => .ok (.value v) w' :=
  @run_callFunc_extern Tryz.prog 178 _ (ReflectliteValue.method (ReflectliteValue.valueError "reflectlite.Value.Elem" 0) ReflectliteValue.elem) Tryz.func178 (by kernel_rfl) (by kernel_rfl) (by kernel_rfl) (by kernel_rfl)
theorem ex_h12 : ∀ (args : Array Value) (w : World), (callFunc 179 args).run Tryz.prog w = ((ReflectliteValue.set args).run Tryz.prog w).andThen fun v w' => .ok (.value v) w' :=
  @run_callFunc_extern Tryz.prog 179 _ ReflectliteValue.set Tryz.func179 (by kernel_rfl) (by kernel_rfl) (by kernel_rfl) (by kernel_rfl)

set_option maxHeartbeats 4000000 in
theorem as_hit (e t : Addr) (old : Value) (w : World) (hg : w.cell? ⟨12, 0, none⟩ = some (.iface 240 (.agg #[.pointer (some ⟨21, 31, none⟩)]))) (ht0 : w.cell? t = some old) (hf0 : w.frozen? t = false) :
    Calls Tryz.prog 109 #[.iface 133 (.pointer (some e)), .iface 179 (.pointer (some t))] w fun ev w' => ev = .returned (.bool true) ∧ w' = ((((w.alloc (.cells #[.pointer (some t)] 179)).alloc (.cells #[.pointer (some ⟨21, 179, none⟩), .pointer (some ⟨w.heap.size, 0, none⟩), .int .u64 150] 205)).alloc (.cells #[.pointer (some ⟨21, 179, none⟩), .pointer (some ⟨w.heap.size, 0, none⟩), .int .u64 150] 205)).alloc (.cells #[.pointer (some e)] 133)).setCell t (.pointer (some e)) := by
  have h6 := ex_h6
  have h7 := ex_h7
  have h8 := ex_h8
  have h27 := ex_h27
  have h37 := ex_h37
  have h38 := ex_h38
  have h10 := ex_TypeOf
  have h35 := ex_h35
  have h11 := ex_h11
  have h12 := ex_h12
  have tO := as_typeOf25
  have mA := as_methodAssignableTo
  have a25 := as_assignable25
  have v25 := as_valueOf25
  have f6 := as_valueOf27
  have f7 := as_type27
  have mK := as_methodKind
  have mE := as_methodElem
  have mI := as_methodImplements
  have k27 := as_kind27
  have k25 := as_kind25
  have e27 := as_elem27
  have i25 := as_implements25
  have n8 := as_isNil27 ⟨w.heap.size, 0, none⟩ t ((w.alloc (.cells #[.pointer (some t)] 179)).alloc (.cells #[.pointer (some ⟨21, 179, none⟩), .pointer (some ⟨w.heap.size, 0, none⟩), .int .u64 150] 205)) (by simp)
  have hlt : 12 < w.heap.size := by
    exact lt_of_cell hg
  have hg2 : ((w.alloc (.cells #[.pointer (some t)] 179)).alloc (.cells #[.pointer (some ⟨21, 179, none⟩), .pointer (some ⟨w.heap.size, 0, none⟩), .int .u64 150] 205)).cell? ⟨12, 0, none⟩ = some (.iface 240 (.agg #[.pointer (some ⟨21, 31, none⟩)])) := by
    rw [World.cell?_alloc_lt _ _ ⟨12, 0, none⟩ (by simp; omega), World.cell?_alloc_lt _ _ ⟨12, 0, none⟩ hlt]; exact hg
  have htl : t.block < w.heap.size := by
    rcases Nat.lt_or_ge t.block w.heap.size with h | h
    · exact h
    · simp [World.cell?, Array.getElem?_eq_none h] at ht0
  have el := as_elemV27 ⟨w.heap.size, 0, none⟩ t (((w.alloc (.cells #[.pointer (some t)] 179)).alloc (.cells #[.pointer (some ⟨21, 179, none⟩), .pointer (some ⟨w.heap.size, 0, none⟩), .int .u64 150] 205)).alloc (.cells #[.pointer (some ⟨21, 179, none⟩), .pointer (some ⟨w.heap.size, 0, none⟩), .int .u64 150] 205)) (by rw [World.cell?_alloc_lt _ _ ⟨w.heap.size, 0, none⟩ (by simp; omega)]; simp)
  have st := as_set25 t ⟨w.heap.size + 1 + 1 + 1, 0, none⟩ e old ((((w.alloc (.cells #[.pointer (some t)] 179)).alloc (.cells #[.pointer (some ⟨21, 179, none⟩), .pointer (some ⟨w.heap.size, 0, none⟩), .int .u64 150] 205)).alloc (.cells #[.pointer (some ⟨21, 179, none⟩), .pointer (some ⟨w.heap.size, 0, none⟩), .int .u64 150] 205)).alloc (.cells #[.pointer (some e)] 133))
    (by rw [World.cell?_alloc_at _ _ _ _ (by simp)]; rfl)
    (by rw [World.cell?_alloc_lt _ _ t (by simp; omega), World.cell?_alloc_lt _ _ t (by simp; omega), World.cell?_alloc_lt _ _ t (by simp; omega), World.cell?_alloc_lt _ _ t htl]; exact ht0)
    (by rw [World.frozen?_alloc_old _ _ t (by simp; omega), World.frozen?_alloc_old _ _ t (by simp; omega), World.frozen?_alloc_old _ _ t (by simp; omega), World.frozen?_alloc_old _ _ t (Nat.ne_of_lt htl)]; exact hf0)
  go_enter Tryz.func109, Tryz.ntmps109
  go_wp2
  refine wp_loop_rounds 1 ?_
  rw [rounds_succ]
  go_wp2
  go_ret
  exact ⟨rfl, rfl⟩


theorem as_typeOfE (v : Value) (w : World) : (ReflectliteType.typeOf #[.iface 308 v]).run Tryz.prog w = .ok (.iface 240 (.agg #[.pointer (some ⟨21, 308, none⟩)])) w := by kernel_rfl
theorem as_assignableE (w : World) : (ReflectliteType.relation "AssignableTo" ReflectliteType.assignableTo #[.agg #[.pointer (some ⟨21, 308, none⟩)], .iface 240 (.agg #[.pointer (some ⟨21, 133, none⟩)])]).run Tryz.prog w = .ok (.bool false) w := by kernel_rfl

set_option maxHeartbeats 4000000 in
theorem as_miss (a t : Addr) (old : Value) (w : World) (hg : w.cell? ⟨12, 0, none⟩ = some (.iface 240 (.agg #[.pointer (some ⟨21, 31, none⟩)]))) (_ : w.cell? t = some old) :
    Calls Tryz.prog 109 #[.iface 308 (.pointer (some a)), .iface 179 (.pointer (some t))] w fun ev w' => ev = .returned (.bool false) ∧ Below w.heap.size w w' := by
  have h6 := ex_h6
  have h7 := ex_h7
  have h8 := ex_h8
  have h27 := ex_h27
  have h37 := ex_h37
  have h38 := ex_h38
  have h10 := ex_TypeOf
  have h35 := ex_h35
  have tO := as_typeOfE
  have mA := as_methodAssignableTo
  have aE := as_assignableE
  have f6 := as_valueOf27
  have f7 := as_type27
  have mK := as_methodKind
  have mE := as_methodElem
  have mI := as_methodImplements
  have k27 := as_kind27
  have k25 := as_kind25
  have e27 := as_elem27
  have i25 := as_implements25
  have uE := noUnwrapE
  have vE := noUnwrapsE
  have nA := noAsE
  have n8 := as_isNil27 ⟨w.heap.size, 0, none⟩ t ((w.alloc (.cells #[.pointer (some t)] 179)).alloc (.cells #[.pointer (some ⟨21, 179, none⟩), .pointer (some ⟨w.heap.size, 0, none⟩), .int .u64 150] 205)) (by simp)
  have hlt : 12 < w.heap.size := by
    exact lt_of_cell hg
  have hg2 : ((w.alloc (.cells #[.pointer (some t)] 179)).alloc (.cells #[.pointer (some ⟨21, 179, none⟩), .pointer (some ⟨w.heap.size, 0, none⟩), .int .u64 150] 205)).cell? ⟨12, 0, none⟩ = some (.iface 240 (.agg #[.pointer (some ⟨21, 31, none⟩)])) := by
    rw [World.cell?_alloc_lt _ _ ⟨12, 0, none⟩ (by simp; omega), World.cell?_alloc_lt _ _ ⟨12, 0, none⟩ hlt]; exact hg
  go_enter Tryz.func109, Tryz.ntmps109
  go_wp2
  refine wp_loop_rounds 1 ?_
  rw [rounds_succ]
  go_wp2
  go_ret
  exact ⟨rfl, (((Below.refl _ _).alloc (Nat.le_refl _) _).alloc (by simp) _).alloc (by simp; omega) _⟩
end Go.Proofs.YtgllddebodfhkaaGreatDoor
namespace Go.Proofs.YtgllddebodfhkaaGreatDoor
open Go.RowKit

/-- The variable of an error's number. -/
def gErr : Nat → Nat
  | 1 => 4 | 2 => 1 | 3 => 0 | 4 => 6 | 5 => 9 | 6 => 2
  | 7 => 7 | 8 => 8 | 9 => 3 | 10 => 5 | 11 => 10 | _ => 11

theorem lt_of_row {w : World} {b : Nat} {o : Obj} (h : w.heap[b]? = some o) : b < w.heap.size := by
  rcases Nat.lt_or_ge b w.heap.size with hl | hl
  · exact hl
  · rw [Array.getElem?_eq_none hl] at h; cases h

/-- The twelve sentinels, and errors' own variable. -/
structure ErrG (E : Nat → Addr) (w : World) : Prop where
  at_ : ∀ k, 1 ≤ k → k ≤ 12 → ErrAt (gErr k) (E k) w
  row : ∀ k, 1 ≤ k → k ≤ 12 → ∃ cs t, w.heap[(E k).block]? = some (.cells cs t (0, 0))
  inj : ∀ i j, 1 ≤ i → i ≤ 12 → 1 ≤ j → j ≤ 12 → E i = E j → i = j
  ty : w.cell? ⟨12, 0, none⟩ = some (.iface 240 (.agg #[.pointer (some ⟨21, 31, none⟩)]))
theorem ErrG.below {E : Nat → Addr} {w w' : World} (h : ErrG E w) (hb : Below w.heap.size w w') : ErrG E w' :=
  ⟨fun k h1 h2 => (h.at_ k h1 h2).below hb, fun k h1 h2 => (h.row k h1 h2).elim fun cs hh => hh.elim fun t hr => ⟨cs, t, (hb.block _ (lt_of_row hr)).trans hr⟩,
    h.inj, (hb.cell (lt_of_cell h.ty)).trans h.ty⟩

/-- How errors.Is answers of an error whose number is K (0: none of them). -/
def IsK (E : Nat → Addr) (v : Value) (K : Nat) (w : World) : Prop :=
  ∀ (k : Nat) (W : World), 1 ≤ k → k ≤ 12 → Below w.heap.size w W → Calls Tryz.prog 110 #[v, .iface 308 (.pointer (some (E k)))] W fun e w' => e = .returned (.bool (decide (k = K))) ∧ W = w'

/-- What plain.Code answers. -/
def codeOf (K : Nat) : Int := if K = 0 then -1 else K

theorem code_nil (w : World) : Calls Tryz.prog 69 #[.nilIface] w fun e w' => e = .returned (.tuple #[.int .i64 0, .int .i64 (-1)]) ∧ w = w' := by
  go_enter Tryz.func69, Tryz.ntmps69
  go_wp2
  go_ret2
  exact ⟨rfl, rfl⟩

theorem cells12 (E : Nat → Addr) (w : World) : ∀ k, k < 12 → (w.alloc (.cells #[.iface 308 (.pointer (some (E 1))), .iface 308 (.pointer (some (E 2))), .iface 308 (.pointer (some (E 3))), .iface 308 (.pointer (some (E 4))), .iface 308 (.pointer (some (E 5))), .iface 308 (.pointer (some (E 6))), .iface 308 (.pointer (some (E 7))), .iface 308 (.pointer (some (E 8))), .iface 308 (.pointer (some (E 9))), .iface 308 (.pointer (some (E 10))), .iface 308 (.pointer (some (E 11))), .iface 308 (.pointer (some (E 12)))] 31)).cell? ⟨w.heap.size, k, none⟩ = some (.iface 308 (.pointer (some (E (k + 1))))) := by
  intro k hk
  rcases (show k = 0 ∨ k = 1 ∨ k = 2 ∨ k = 3 ∨ k = 4 ∨ k = 5 ∨ k = 6 ∨ k = 7 ∨ k = 8 ∨ k = 9 ∨ k = 10 ∨ k = 11 by omega) with rfl | rfl | rfl | rfl | rfl | rfl | rfl | rfl | rfl | rfl | rfl | rfl <;> simp

set_option maxHeartbeats 1000000 in
/-- An error that bears no place. -/
theorem code_miss (E : Nat → Addr) (tv : TypeId) (pv : Value) (K : Nat) (w : World) (hG : ErrG E w) (hK : K ≤ 12) (hIs : IsK E (.iface tv pv) K w)
    (hAs : ∀ (t : Addr) (old : Value) (W : World), Below w.heap.size w W → W.cell? t = some old → Calls Tryz.prog 109 #[.iface tv pv, .iface 179 (.pointer (some t))] W fun ev w' => ev = .returned (.bool false) ∧ Below W.heap.size W w') :
    Calls Tryz.prog 69 #[.iface tv pv] w fun e w' => e = .returned (.tuple #[.int .i64 (codeOf K), .int .i64 (-1)]) ∧ Below w.heap.size w w' := by
  have HIs := Lib.hid hIs
  have HAs := Lib.hid hAs
  clear hIs hAs
  go_enter Tryz.func69, Tryz.ntmps69
  go_wp2_with fail
  refine (HAs.out _ (.pointer none) _ ((Below.refl _ _).alloc (Nat.le_refl _) _) (by simp)).mono ?_
  rintro e w1 ⟨rfl, hb1⟩
  have hb : Below w.heap.size w w1 := ((Below.refl w.heap.size w).alloc (Nat.le_refl _) _).trans (hb1.mono (by simp))
  have hG1 := hG.below hb
  have c1 := hG1.at_ 1 (by omega) (by omega)
  have c2 := hG1.at_ 2 (by omega) (by omega)
  have c3 := hG1.at_ 3 (by omega) (by omega)
  have c4 := hG1.at_ 4 (by omega) (by omega)
  have c5 := hG1.at_ 5 (by omega) (by omega)
  have c6 := hG1.at_ 6 (by omega) (by omega)
  have c7 := hG1.at_ 7 (by omega) (by omega)
  have c8 := hG1.at_ 8 (by omega) (by omega)
  have c9 := hG1.at_ 9 (by omega) (by omega)
  have c10 := hG1.at_ 10 (by omega) (by omega)
  have c11 := hG1.at_ 11 (by omega) (by omega)
  have c12 := hG1.at_ 12 (by omega) (by omega)
  simp only [gErr, ErrAt] at c1 c2 c3 c4 c5 c6 c7 c8 c9 c10 c11 c12
  go_wp2_with fail
  clear c1 c2 c3 c4 c5 c6 c7 c8 c9 c10 c11 c12 hG1
  have hc := cells12 E w1
  have hb2 : Below w.heap.size w (w1.alloc (.cells #[.iface 308 (.pointer (some (E 1))), .iface 308 (.pointer (some (E 2))), .iface 308 (.pointer (some (E 3))), .iface 308 (.pointer (some (E 4))), .iface 308 (.pointer (some (E 5))), .iface 308 (.pointer (some (E 6))), .iface 308 (.pointer (some (E 7))), .iface 308 (.pointer (some (E 8))), .iface 308 (.pointer (some (E 9))), .iface 308 (.pointer (some (E 10))), .iface 308 (.pointer (some (E 11))), .iface 308 (.pointer (some (E 12)))] 31)) := hb.alloc hb.size _
  generalize w1.alloc (.cells #[.iface 308 (.pointer (some (E 1))), .iface 308 (.pointer (some (E 2))), .iface 308 (.pointer (some (E 3))), .iface 308 (.pointer (some (E 4))), .iface 308 (.pointer (some (E 5))), .iface 308 (.pointer (some (E 6))), .iface 308 (.pointer (some (E 7))), .iface 308 (.pointer (some (E 8))), .iface 308 (.pointer (some (E 9))), .iface 308 (.pointer (some (E 10))), .iface 308 (.pointer (some (E 11))), .iface 308 (.pointer (some (E 12)))] 31) = w2 at hc hb2 ⊢
  generalize w1.heap.size = g at hc ⊢
  have HC := Lib.hid hc
  clear hc hb1 hb hG
  go_loop [3, 30] (fun a i => ∃ k : Nat, k ≤ 12 ∧ (K = 0 ∨ k < K) ∧ a = .int .i64 (-1) ∧ i = .int .i64 k) (fun _ i => 12 - (intOf i).toNat)
  case atStart => exact ⟨0, by omega, by omega, rfl, rfl⟩
  case round =>
    obtain ⟨k, hk, hlt, rfl, rfl⟩ := hrel
    by_cases h12 : k < 12
    · have hcell := HC.out k h12
      by_cases hKk : k + 1 = K
      · have hd : decide (k + 1 = K) = true := by simpa using hKk
        have HF := Lib.hid (show codeOf K = ((k : Int) + 1) by unfold codeOf; rw [if_neg (by omega), ← hKk]; rfl)
        clear hKk hlt
        go_wp2_with fail
        refine (HIs.out (k + 1) _ (by omega) (by omega) hb2).mono ?_
        rw [hd]
        rintro e w3 ⟨rfl, rfl⟩
        go_wp2_with fail
        go_ret2
        refine ⟨?_, hb2⟩
        rw [HF.out]
        rfl
      · have hd : decide (k + 1 = K) = false := by simpa using hKk
        go_wp2_with fail
        refine (HIs.out (k + 1) _ (by omega) (by omega) hb2).mono ?_
        rw [hd]
        rintro e w3 ⟨rfl, rfl⟩
        go_wp2_with fail
        go_round
        case rel => exact ⟨k + 1, by omega, by omega, rfl, by go_num⟩
        case measure => simp [intOf]; omega
    · have HF := Lib.hid (show codeOf K = -1 by unfold codeOf; rw [if_pos (by omega)])
      have hk12 : 12 ≤ k := by omega
      clear hlt
      go_wp2_with fail
      go_ret2
      refine ⟨?_, hb2⟩
      rw [HF.out]
      rfl

set_option maxRecDepth 100000 in
set_option maxHeartbeats 1000000 in
/-- A fault with a place. -/
theorem code_hit (E : Nat → Addr) (p : Addr) (n : Int) (K : Nat) (w : World) (hG : ErrG E w) (hK : K ≤ 12) (hp : w.cell? p = some (.int .i64 n)) (hIs : IsK E (.iface 133 (.pointer (some p))) K w) :
    Calls Tryz.prog 69 #[.iface 133 (.pointer (some p))] w fun e w' => e = .returned (.tuple #[.int .i64 (codeOf K), .int .i64 n]) ∧ Below w.heap.size w w' := by
  have HIs := Lib.hid hIs
  have hA := as_hit p ⟨w.heap.size, 0, none⟩ (.pointer none) (w.alloc (.cells #[.pointer none] 133)) (hG.below ((Below.refl _ _).alloc (Nat.le_refl _) _)).ty (by simp) (by simp)
  have HA := Lib.hid (hA.mono fun ev w' (h : ev = .returned (.bool true) ∧ w' = _) => (show ev = .returned (.bool true) ∧ Below w.heap.size w w' ∧ w'.cell? ⟨w.heap.size, 0, none⟩ = some (.pointer (some p)) ∧ w.heap.size < w'.heap.size from by
    obtain ⟨he, rfl⟩ := h
    refine ⟨he, ?_, ?_, by simp [World.setCell]; omega⟩
    · exact (((((((Below.refl w.heap.size w).alloc (Nat.le_refl _) _).alloc (by simp) _).alloc (by simp; omega) _).alloc (by simp; omega) _).alloc (by simp; omega) _)).setCell (by simp) _
    · refine World.cell?_setCell_same (u := .pointer none) _ _ _ ?_
      rw [World.cell?_alloc_lt _ _ ⟨w.heap.size, 0, none⟩ (by simp; omega), World.cell?_alloc_lt _ _ ⟨w.heap.size, 0, none⟩ (by simp; omega), World.cell?_alloc_lt _ _ ⟨w.heap.size, 0, none⟩ (by simp; omega), World.cell?_alloc_lt _ _ ⟨w.heap.size, 0, none⟩ (by simp)]
      simp))
  clear hIs hA
  go_enter Tryz.func69, Tryz.ntmps69
  go_wp2_with fail
  refine HA.out.mono ?_
  rintro e w1 ⟨rfl, hb, hcellF, hsz⟩
  have hp1 : w1.cell? p = some (.int .i64 n) := (hb.cell (lt_of_cell hp)).trans hp
  have hb1 : True := trivial
  have hG1 := hG.below hb
  have c1 := hG1.at_ 1 (by omega) (by omega)
  have c2 := hG1.at_ 2 (by omega) (by omega)
  have c3 := hG1.at_ 3 (by omega) (by omega)
  have c4 := hG1.at_ 4 (by omega) (by omega)
  have c5 := hG1.at_ 5 (by omega) (by omega)
  have c6 := hG1.at_ 6 (by omega) (by omega)
  have c7 := hG1.at_ 7 (by omega) (by omega)
  have c8 := hG1.at_ 8 (by omega) (by omega)
  have c9 := hG1.at_ 9 (by omega) (by omega)
  have c10 := hG1.at_ 10 (by omega) (by omega)
  have c11 := hG1.at_ 11 (by omega) (by omega)
  have c12 := hG1.at_ 12 (by omega) (by omega)
  simp only [gErr, ErrAt] at c1 c2 c3 c4 c5 c6 c7 c8 c9 c10 c11 c12
  go_wp2_with fail
  clear c1 c2 c3 c4 c5 c6 c7 c8 c9 c10 c11 c12 hG1
  have hc := cells12 E w1
  have hb2 : Below w.heap.size w (w1.alloc (.cells #[.iface 308 (.pointer (some (E 1))), .iface 308 (.pointer (some (E 2))), .iface 308 (.pointer (some (E 3))), .iface 308 (.pointer (some (E 4))), .iface 308 (.pointer (some (E 5))), .iface 308 (.pointer (some (E 6))), .iface 308 (.pointer (some (E 7))), .iface 308 (.pointer (some (E 8))), .iface 308 (.pointer (some (E 9))), .iface 308 (.pointer (some (E 10))), .iface 308 (.pointer (some (E 11))), .iface 308 (.pointer (some (E 12)))] 31)) := hb.alloc hb.size _
  generalize w1.alloc (.cells #[.iface 308 (.pointer (some (E 1))), .iface 308 (.pointer (some (E 2))), .iface 308 (.pointer (some (E 3))), .iface 308 (.pointer (some (E 4))), .iface 308 (.pointer (some (E 5))), .iface 308 (.pointer (some (E 6))), .iface 308 (.pointer (some (E 7))), .iface 308 (.pointer (some (E 8))), .iface 308 (.pointer (some (E 9))), .iface 308 (.pointer (some (E 10))), .iface 308 (.pointer (some (E 11))), .iface 308 (.pointer (some (E 12)))] 31) = w2 at hc hb2 ⊢
  generalize w1.heap.size = g at hc ⊢
  have HC := Lib.hid hc
  clear hc hb1 hb hG
  go_loop [3, 30] (fun a i => ∃ k : Nat, k ≤ 12 ∧ (K = 0 ∨ k < K) ∧ a = .int .i64 n ∧ i = .int .i64 k) (fun _ i => 12 - (intOf i).toNat)
  case atStart => exact ⟨0, by omega, by omega, rfl, rfl⟩
  case round =>
    obtain ⟨k, hk, hlt, rfl, rfl⟩ := hrel
    by_cases h12 : k < 12
    · have hcell := HC.out k h12
      by_cases hKk : k + 1 = K
      · have hd : decide (k + 1 = K) = true := by simpa using hKk
        have HF := Lib.hid (show codeOf K = ((k : Int) + 1) by unfold codeOf; rw [if_neg (by omega), ← hKk]; rfl)
        clear hKk hlt
        go_wp2_with fail
        refine (HIs.out (k + 1) _ (by omega) (by omega) hb2).mono ?_
        rw [hd]
        rintro e w3 ⟨rfl, rfl⟩
        go_wp2_with fail
        go_ret2
        refine ⟨?_, hb2⟩
        rw [HF.out]
        rfl
      · have hd : decide (k + 1 = K) = false := by simpa using hKk
        go_wp2_with fail
        refine (HIs.out (k + 1) _ (by omega) (by omega) hb2).mono ?_
        rw [hd]
        rintro e w3 ⟨rfl, rfl⟩
        go_wp2_with fail
        go_round
        case rel => exact ⟨k + 1, by omega, by omega, rfl, by go_num⟩
        case measure => simp [intOf]; omega
    · have HF := Lib.hid (show codeOf K = -1 by unfold codeOf; rw [if_pos (by omega)])
      have hk12 : 12 ≤ k := by omega
      clear hlt
      go_wp2_with fail
      go_ret2
      refine ⟨?_, hb2⟩
      rw [HF.out]
      rfl
end Go.Proofs.YtgllddebodfhkaaGreatDoor
