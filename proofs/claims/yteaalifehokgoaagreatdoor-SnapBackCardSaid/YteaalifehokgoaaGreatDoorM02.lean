/- Maps in memory: a block of entries that reads as a list of keys and elements; the laws at a look-up, a store, a deletion, len, range, the step of a range. -/
import Derived.Maps.RangeWalk
import Derived.Test.YteaalifehokgoaaGreatDoorM01
namespace Go.Proofs.YteaalifehokgoaaGreatDoor
open Go.RowKit Go.ChangeMaps Go.MapKept
section
variable {κ ν : Type} [DecidableEq κ]
def mget : List (κ × ν) → κ → Option ν
 |[], _ => none
 |p :: r, k => if p.1 = k then some p.2 else mget r k
def mput : List (κ × ν) → κ → ν → List (κ × ν)
 |[], k, v => [(k, v)]
 |p :: r, k, v => if p.1 = k then (k, v) :: r else p :: mput r k v
def mdel (m : List (κ × ν)) (k : κ) : List (κ × ν) := m.filter (fun p => decide (p.1 ≠ k))
theorem mget_none : ∀ {m : List (κ × ν)} {k : κ}, (∀ p ∈ m, p.1 ≠ k) → mget m k = none
 |[], _, _ => rfl
 |p :: r, k, h => by
  unfold mget
  rw [if_neg (h p (by simp))]
  exact mget_none fun q hq => h q (by simp [hq])
theorem mget_at : ∀ {m : List (κ × ν)} {j : Nat} {p : κ × ν}, (m.map (·.1)).Nodup → m[j]? = some p → mget m p.1 = some p.2
 |[], _, _, _, h => by simp at h
 |q :: r, j, p, hn, h => by
  unfold mget
  simp only [List.map_cons, List.nodup_cons] at hn
  match j, h with
  |0, h => simp at h; subst h; simp
  |j + 1, h =>
   have h' : r[j]? = some p := by simpa using h
   rw [if_neg (show ¬ q.1 = p.1 from fun e => hn.1 (e ▸ List.mem_map.2 ⟨p, List.mem_of_getElem? h', rfl⟩))]
   exact mget_at hn.2 h'
theorem mget_mem : ∀ {m : List (κ × ν)} {k : κ} {v : ν}, mget m k = some v → (k, v) ∈ m
 |[], _, _, h => by simp [mget] at h
 |q :: r, k, v, h => by
  unfold mget at h
  split at h
  ·rename_i e; cases h; subst e; simp
  ·exact List.mem_cons_of_mem _ (mget_mem h)
theorem mput_new : ∀ {m : List (κ × ν)} {k : κ} (v : ν), (∀ p ∈ m, p.1 ≠ k) → mput m k v = m ++ [(k, v)]
 |[], _, _, _ => rfl
 |p :: r, k, v, h => by
  unfold mput
  rw [if_neg (h p (by simp)), mput_new v fun q hq => h q (by simp [hq])]
  rfl
theorem mput_at : ∀ {m : List (κ × ν)} {j : Nat} {p : κ × ν} (v : ν), (m.map (·.1)).Nodup → m[j]? = some p → mput m p.1 v = m.set j (p.1, v)
 |[], _, _, _, _, h => by simp at h
 |q :: r, j, p, v, hn, h => by
  unfold mput
  simp only [List.map_cons, List.nodup_cons] at hn
  match j, h with
  |0, h => simp at h; subst h; simp
  |j + 1, h =>
   have h' : r[j]? = some p := by simpa using h
   rw [if_neg (show ¬ q.1 = p.1 from fun e => hn.1 (e ▸ List.mem_map.2 ⟨p, List.mem_of_getElem? h', rfl⟩)), mput_at v hn.2 h']
   rfl
theorem mdel_new {m : List (κ × ν)} {k : κ} (h : ∀ p ∈ m, p.1 ≠ k) : mdel m k = m := List.filter_eq_self.2 fun p hp => by simpa using h p hp
theorem mdel_at : ∀ {m : List (κ × ν)} {j : Nat} {p : κ × ν}, (m.map (·.1)).Nodup → m[j]? = some p → mdel m p.1 = m.eraseIdx j
 |[], _, _, _, h => by simp at h
 |q :: r, j, p, hn, h => by
  simp only [List.map_cons, List.nodup_cons] at hn
  match j, h with
  |0, h =>
   simp at h; subst h
   unfold mdel
   rw [List.filter_cons_of_neg (by simp)]
   exact mdel_new fun x hx e => hn.1 (e ▸ List.mem_map.2 ⟨x, hx, rfl⟩)
  |j + 1, h =>
   have h' : r[j]? = some p := by simpa using h
   unfold mdel
   rw [List.filter_cons_of_pos (by simpa using (show ¬ q.1 = p.1 from fun e => hn.1 (e ▸ List.mem_map.2 ⟨p, List.mem_of_getElem? h', rfl⟩)))]
   exact congrArg (q :: ·) (mdel_at hn.2 h')
end
section
variable {κ ν : Type}
/-! In memory. -/
structure KeyOk (P : Program) (kt : TypeId) (eK : κ → Value) : Prop where
 inj : ∀ {a b : κ}, eK a = eK b → a = b
 check : ∀ (w : World) (em : Bool) (k : κ), (Instr.checkKey em 10000 kt (eK k)).run P w = .ok () w
 find : ∀ (w : World) (x : κ) (es : List MapEntry), (∀ e ∈ es, ∃ y, e.key = eK y) →
  ((Instr.findKey kt (eK x) es).run P w = .ok none w ∧ ∀ e ∈ es, e.key ≠ eK x) ∨ ∃ j e, (Instr.findKey kt (eK x) es).run P w = .ok (some (j, e.val)) w ∧ es[j]? = some e ∧ e.key = eK x
 stays : ∀ (w : World) (k : κ), (Instr.keyThatStays (eK k) (eK k)).run P w = .ok (eK k) w
def MapIs (eK : κ → Value) (eV : ν → Value) (w : World) (b : Nat) (m : List (κ × ν)) : Prop :=
 ∃ es clock, w.heap[b]? = some (.map es clock) ∧ Stamped es clock ∧ es.toList.map (fun e => (e.key, e.val)) = m.map (fun p => (eK p.1, eV p.2))
variable {P : Program} {kt : TypeId} {eK : κ → Value} {eV : ν → Value} {w w' : World} {b : Nat} {m : List (κ × ν)}
theorem MapIs.lt (h : MapIs eK eV w b m) : b < w.heap.size := by
 obtain ⟨es, clock, hb, _⟩ := h
 exact (Array.getElem?_eq_some_iff.1 hb).1
theorem MapIs.keep (h : MapIs eK eV w b m) (hb : w'.heap[b]? = w.heap[b]?) : MapIs eK eV w' b m := by
 obtain ⟨es, clock, h1, h2⟩ := h
 exact ⟨es, clock, hb.trans h1, h2⟩
theorem MapIs.below (h : MapIs eK eV w b m) (hb : Below w.heap.size w w') : MapIs eK eV w' b m := h.keep (hb.block _ h.lt)
theorem MapIs.made (eK : κ → Value) (eV : ν → Value) (w : World) : MapIs eK eV (w.alloc (.map #[] 0)) w.heap.size [] := ⟨#[], 0, (MapKept.heap_alloc w _).1, stamped_empty 0, rfl⟩
theorem zipped {l : List MapEntry} (h : l.map (fun e => (e.key, e.val)) = m.map (fun p => (eK p.1, eV p.2))) : l.length = m.length ∧ ∀ (j : Nat) (e : MapEntry), l[j]? = some e → ∃ p, m[j]? = some p ∧ e.key = eK p.1 ∧ e.val = eV p.2 := by
 have hl : l.length = m.length := by simpa using congrArg List.length h
 refine ⟨hl, fun j e he => ?_⟩
 have hj : (l.map (fun e => (e.key, e.val)))[j]? = some (e.key, e.val) := by rw [List.getElem?_map, he]; rfl
 rw [h, List.getElem?_map] at hj
 cases hm : m[j]? with
 |none => rw [hm] at hj; simp at hj
 |some p =>
  rw [hm] at hj
  simp only [Option.map_some, Option.some.injEq, Prod.mk.injEq] at hj
  exact ⟨p, rfl, hj.1.symm, hj.2.symm⟩
theorem zipped_back {l : List MapEntry} (h : l.map (fun e => (e.key, e.val)) = m.map (fun p => (eK p.1, eV p.2))) {p : κ × ν} (hp : p ∈ m) : ∃ e ∈ l, e.key = eK p.1 ∧ e.val = eV p.2 := by
 have h1 : (eK p.1, eV p.2) ∈ l.map (fun e => (e.key, e.val)) := by rw [h]; exact List.mem_map.2 ⟨p, hp, rfl⟩
 obtain ⟨e, he, h2⟩ := List.mem_map.1 h1
 simp only [Prod.mk.injEq] at h2
 exact ⟨e, he, h2.1, h2.2⟩
theorem zipped_keys {l : List MapEntry} (h : l.map (fun e => (e.key, e.val)) = m.map (fun p => (eK p.1, eV p.2))) (hn : (l.map (·.key)).Nodup) : (m.map (·.1)).Nodup := by
 have e1 : l.map (·.key) = (m.map (·.1)).map eK := by
  have := congrArg (List.map Prod.fst) h
  simpa [Function.comp_def] using this
 rw [e1, List.Nodup, List.pairwise_map] at hn
 exact hn.imp fun hne e => hne (congrArg eK e)
theorem MapIs.nodup (h : MapIs eK eV w b m) : (m.map (·.1)).Nodup := by
 obtain ⟨es, clock, _, h2, h3⟩ := h
 exact zipped_keys h3 h2.2.2
theorem Turned.of_set {es : Array MapEntry} {clock : Nat} (hb : w.heap[b]? = some (.map es clock)) (o : Obj) : Turned b w (setBlock w b o) := ⟨rfl, rfl, rfl, by simp [setBlock], fun _ hi => heap_setBlock_other hb o hi⟩
theorem MapIs.len (h : MapIs eK eV w b m) {t e ty : TypeId} (ht : P.underlying t = some (.map kt e)) : (Builtin.len_ #[t] ty #[.map (some b)]).run P w = .ok (.int .i64 m.length) w := by
 obtain ⟨es, clock, hb, hs, hm⟩ := h
 have hl : es.size = m.length := by simpa using (zipped hm).1
 simp [Builtin.len_, run_underlying ht, MapKept.run_getObj_map hb, Result.andThen, hl, goInt]
/-! A range under way: the entries that are still to come. -/
def Ranging (eK : κ → Value) (eV : ν → Value) (w : World) (b r : Nat) (m left : List (κ × ν)) : Prop :=
 ∃ es clock since seen c0, w.heap[b]? = some (.map es clock) ∧ Stamped es clock ∧ es.toList.map (fun e => (e.key, e.val)) = m.map (fun p => (eK p.1, eV p.2)) ∧
  w.heap[r]? = some (.mapIter (some b) since seen c0) ∧ (∀ x ∈ es.toList, x.born < since) ∧ (leftOf es seen).toList.map (fun e => (e.key, e.val)) = left.map (fun p => (eK p.1, eV p.2)) ∧ since ≤ c0 ∧ since ≤ clock
variable {r : Nat} {left : List (κ × ν)}
theorem Ranging.map (h : Ranging eK eV w b r m left) : MapIs eK eV w b m := by
 obtain ⟨es, clock, _, _, _, hb, hs, hm, _⟩ := h
 exact ⟨es, clock, hb, hs, hm⟩
theorem Ranging.left_eq (h : Ranging eK eV w b r m left) : w.rangeLeft b r = left.length := by
 obtain ⟨es, clock, since, seen, c0, hb, _, _, hr, _, hl, _⟩ := h
 simp only [World.rangeLeft, hb, hr]
 simpa using (zipped hl).1
theorem Ranging.ne (h : Ranging eK eV w b r m left) : r ≠ b := by
 obtain ⟨es, clock, since, seen, c0, hb, _, _, hr, _⟩ := h
 intro e
 rw [e, hb] at hr
 cases hr
theorem Ranging.lt (h : Ranging eK eV w b r m left) : r < w.heap.size := by
 obtain ⟨es, clock, since, seen, c0, _, _, _, hr, _⟩ := h
 exact (Array.getElem?_eq_some_iff.1 hr).1
theorem Ranging.keep (h : Ranging eK eV w b r m left) (hb : w'.heap[b]? = w.heap[b]?) (hr : w'.heap[r]? = w.heap[r]?) : Ranging eK eV w' b r m left := by
 obtain ⟨es, clock, since, seen, c0, h1, hs, hm, h2, rest⟩ := h
 exact ⟨es, clock, since, seen, c0, hb.trans h1, hs, hm, hr.trans h2, rest⟩
theorem Ranging.below (h : Ranging eK eV w b r m left) (hb : Below w.heap.size w w') : Ranging eK eV w' b r m left := h.keep (hb.block _ h.map.lt) (hb.block _ h.lt)
theorem MapIs.range (h : MapIs eK eV w b m) {t e : TypeId} (ht : P.underlying t = some (.map kt e)) :
  ∃ w', (Instr.range t (.map (some b))).run P w = .ok (.pointer (some ⟨w.heap.size, 0, none⟩)) w' ∧ Ranging eK eV w' b w.heap.size m m ∧ Below w.heap.size w w' ∧ w'.heap.size = w.heap.size + 1 := by
 have hlt := h.lt
 obtain ⟨es, clock, hb, hs, hm⟩ := h
 refine ⟨_, run_range_map w t kt e b es clock ht hb, ⟨es, clock, clock, #[], clock, ((MapKept.heap_alloc w _).2 b hlt).trans hb, hs, hm, (MapKept.heap_alloc w _).1, hs.1, ?_, Nat.le_refl _, Nat.le_refl _⟩, (Below.refl _ _).alloc (Nat.le_refl _) _, by simp⟩
 have e1 : leftOf es #[] = es := by
  unfold leftOf
  exact Array.filter_eq_self.2 fun x _ => by simp
 rw [e1]
 exact hm
theorem born_apart : ∀ {l : List MapEntry}, (l.map (·.born)).Nodup → ∀ {l1 l2 : List MapEntry} {e : MapEntry}, l = l1 ++ e :: l2 → l.filter (fun x => !(x.born == e.born)) = l1 ++ l2
 |_, hn, l1, l2, e, h => by
  subst h
  simp only [List.map_append, List.map_cons] at hn
  obtain ⟨_, h2, h3⟩ := List.nodup_append.1 hn
  simp only [List.nodup_cons] at h2
  rw [List.filter_append, List.filter_cons_of_neg (by simp)]
  congr 1
  ·exact List.filter_eq_self.2 fun x hx => by simpa using (show ¬ x.born = e.born from fun e1 => h3 x.born (List.mem_map.2 ⟨x, hx, rfl⟩) e.born (by simp) e1)
  ·exact List.filter_eq_self.2 fun x hx => by simpa using (show ¬ x.born = e.born from fun e1 => h2.1 (e1 ▸ List.mem_map.2 ⟨x, hx, rfl⟩))
theorem Ranging.next (h : Ranging eK eV w b r m left) (ty : TypeId) :
  (left = [] ∧ (Instr.next (.pointer (some ⟨r, 0, none⟩)) false ty).run P w = .ok (.tuple #[.bool false]) w) ∨
  ∃ l1 k v l2 w', left = l1 ++ (k, v) :: l2 ∧ (Instr.next (.pointer (some ⟨r, 0, none⟩)) false ty).run P w = .ok (.tuple #[.bool true, eK k, eV v]) w' ∧
   Ranging eK eV w' b r m (l1 ++ l2) ∧ Turned r w w' ∧ (Instr.entry (.pointer (some ⟨r, 0, none⟩))).run P w' = .ok (.tuple #[eK k, eV v]) w' := by
 have hne := h.ne
 obtain ⟨es, clock, since, seen, c0, hb, hs, hm, hr, hold, hl, hsc, hsk⟩ := h
 rcases run_next_at (P := P) w ty r b since c0 seen es clock hr hb hold hsc with ⟨h0, hrun⟩ | ⟨e, he, w1, hal, hrun⟩
 ·have : left.length = 0 := by rw [← (zipped hl).1]; simpa using h0
  exact .inl ⟨List.length_eq_zero_iff.1 this, hrun⟩
 ·obtain ⟨hem, hes⟩ := mem_left he
  obtain ⟨a1, a2, ha⟩ := List.append_of_mem he
  have hl' := hl
  rw [ha] at hl'
  simp only [List.map_append, List.map_cons] at hl'
  obtain ⟨l1, lr, e1, e2, e3⟩ := List.map_eq_append_iff.1 hl'.symm
  obtain ⟨⟨k, v⟩, l2, rfl, e4, e5⟩ := List.map_eq_cons_iff.1 e3
  simp only [Prod.mk.injEq] at e4
  have hr1 : w1.heap[r]? = some (.mapIter (some b) since seen c0) := by rcases hal with rfl | rfl <;> exact hr
  have hb1 : w1.heap[b]? = some (.map es clock) := by rcases hal with rfl | rfl <;> exact hb
  have hset := heap_set (o' := .mapIter (some b) since (seen.push e.born) clock) hr1
  have hb' : (setBlock w1 r (.mapIter (some b) since (seen.push e.born) clock)).heap[b]? = some (.map es clock) := (hset.2 b (fun e1 => hne e1.symm)).trans hb1
  have hen := run_entry_at (P := P) _ r b since seen es clock e hset.1 hb' hem ((stamped_iff es clock).1 hs).2.1
  refine .inr ⟨l1, k, v, l2, setBlock w1 r (.mapIter (some b) since (seen.push e.born) clock), e1, ?_, ⟨es, clock, since, seen.push e.born, clock, hb', hs, hm, hset.1, hold, ?_, hsk, hsk⟩, ?_, ?_⟩
  ·rw [hrun, e4.1, e4.2]
  ·have e6 : (leftOf es (seen.push e.born)).toList = a1 ++ a2 := by
    have e7 : (leftOf es (seen.push e.born)).toList = (leftOf es seen).toList.filter (fun x => !(x.born == e.born)) := by
     simp only [leftOf, Array.toList_filter, List.filter_filter]
     refine List.filter_congr fun x _ => ?_
     rw [contains_push]
     cases seen.contains x.born <;> cases (x.born == e.born) <;> rfl
    rw [e7]
    refine born_apart ?_ ha
    have : ((leftOf es seen).toList.map (·.born)).Sublist (es.toList.map (·.born)) := by
     simp only [leftOf, Array.toList_filter]
     exact (List.filter_sublist).map _
    exact this.nodup hs.2.1
   rw [e6, List.map_append, List.map_append, e2, e5]
  ·rcases hal with rfl | rfl <;> exact ⟨rfl, rfl, rfl, by simp [setBlock], fun i hi => hset.2 i hi⟩
  ·rw [← e4.1, ← e4.2] at hen
   exact hen
/-! At the operations, for a walk. -/
variable {ops : Array Oper} {rest : List Oper} {o : Oper} {a : Act} {Q : Exit → Act → World → Prop}
theorem wpList_range_map (w : World) (hg : o.guard = none) (mo : Operand) (t : TypeId) (hop : o.op = Op.range t mo) (kt e : TypeId) (ht : P.underlying t = some (.map kt e))
  (b : Nat) (m : List (κ × ν)) (hm : a.eval mo = .map (some b)) (h : MapIs eK eV w b m)
  (hK : ∀ w', Ranging eK eV w' b w.heap.size m m → Below w.heap.size w w' → w'.heap.size = w.heap.size + 1 → wpList P ops Q rest (a.put o.dst (.pointer (some ⟨w.heap.size, 0, none⟩))) w') : wpList P ops Q (o :: rest) a w := by
 refine wpList_plain hg fun K' hK' => ?_
 obtain ⟨w', hrun, r1, r2, r3⟩ := h.range ht
 unfold Oper.wp
 simp [execOp, hop, hm, hrun, Result.andThen]
 exact hK' _ _ (hK w' r1 r2 r3)
theorem wpList_next_map (w : World) (hg : o.guard = none) (it : Operand) (hop : o.op = Op.next it false) (b r : Nat) (m left : List (κ × ν)) (hit : a.eval it = .pointer (some ⟨r, 0, none⟩)) (h : Ranging eK eV w b r m left)
  (hDone : left = [] → wpList P ops Q rest (a.put o.dst (.tuple #[.bool false])) w)
  (hMore : ∀ (l1 : List (κ × ν)) (k : κ) (v : ν) (l2 : List (κ × ν)) (w' : World), left = l1 ++ (k, v) :: l2 → Ranging eK eV w' b r m (l1 ++ l2) → Turned r w w' →
   (Instr.entry (.pointer (some ⟨r, 0, none⟩))).run P w' = .ok (.tuple #[eK k, eV v]) w' → wpList P ops Q rest (a.put o.dst (.tuple #[.bool true, eK k, eV v])) w') : wpList P ops Q (o :: rest) a w := by
 refine wpList_plain hg fun K' hK' => ?_
 unfold Oper.wp
 rcases h.next (P := P) o.type with ⟨h0, hrun⟩ | ⟨l1, k, v, l2, w', h0, hrun, hrg, ht, hen⟩
 ·simp [execOp, hop, hit, hrun, Result.andThen]
  exact hK' _ _ (hDone h0)
 ·simp [execOp, hop, hit, hrun, Result.andThen]
  exact hK' _ _ (hMore l1 k v l2 w' h0 hrg ht hen)
end
section
variable {κ ν : Type} [DecidableEq κ]
variable {P : Program} {kt : TypeId} {eK : κ → Value} {eV : ν → Value} {w w' : World} {b : Nat} {m : List (κ × ν)}
theorem KeyOk.pick (K : KeyOk P kt eK) {l : List MapEntry} (h : l.map (fun e => (e.key, e.val)) = m.map (fun p => (eK p.1, eV p.2))) (hn : (m.map (·.1)).Nodup) (w : World) (k : κ) :
  ((Instr.findKey kt (eK k) l).run P w = .ok none w ∧ (∀ p ∈ m, p.1 ≠ k) ∧ mget m k = none) ∨
  ∃ j e v, (Instr.findKey kt (eK k) l).run P w = .ok (some (j, e.val)) w ∧ l[j]? = some e ∧ e.key = eK k ∧ e.val = eV v ∧ m[j]? = some (k, v) ∧ mget m k = some v := by
 have hz := zipped h
 rcases K.find w k l (fun e he => by
  obtain ⟨j, hj⟩ := List.getElem?_of_mem he
  obtain ⟨p, _, h1, _⟩ := hz.2 j e hj
  exact ⟨p.1, h1⟩) with ⟨h1, h2⟩ | ⟨j, e, h1, h2, h3⟩
 ·have hno : ∀ p ∈ m, p.1 ≠ k := fun p hp e => by
   obtain ⟨x, hx, h4, _⟩ := zipped_back h hp
   exact h2 x hx (by rw [h4, e])
  exact .inl ⟨h1, hno, mget_none hno⟩
 ·obtain ⟨p, hp, h4, h5⟩ := hz.2 j e h2
  obtain rfl : p.1 = k := K.inj (h4.symm.trans h3)
  exact .inr ⟨j, e, p.2, h1, h2, h3, h5, hp, mget_at hn hp⟩
theorem MapIs.look (h : MapIs eK eV w b m) (K : KeyOk P kt eK) {t e : TypeId} (ht : P.underlying t = some (.map kt e)) {z : ν} (hz : (zeroValue e).run P w = .ok (eV z) w) (k : κ) (c : Bool) :
  (Instr.lookup t (.map (some b)) (eK k) c).run P w = .ok (if c then .tuple #[eV ((mget m k).getD z), .bool (mget m k).isSome] else eV ((mget m k).getD z)) w := by
 have hn := h.nodup
 obtain ⟨es, clock, hb, hs, hm⟩ := h
 rcases K.pick hm hn w k with ⟨h1, _, h2⟩ | ⟨j, e0, v, h1, _, _, h4, _, h2⟩
 ·rw [h2]
  simp [Instr.lookup, run_underlying ht, MapKept.run_getObj_map hb, K.check w _ k, h1, hz, Result.andThen]
 ·rw [h2]
  simp [Instr.lookup, run_underlying ht, MapKept.run_getObj_map hb, K.check w _ k, h1, h4, Result.andThen]
theorem MapIs.store (h : MapIs eK eV w b m) (K : KeyOk P kt eK) {t e : TypeId} (ht : P.underlying t = some (.map kt e)) (k : κ) (v : ν) :
  ∃ w', (Instr.mapUpdate t (.map (some b)) (eK k) (eV v)).run P w = .ok () w' ∧ MapIs eK eV w' b (mput m k v) ∧ Turned b w w' := by
 have hn := h.nodup
 obtain ⟨es, clock, hb, hs, hm⟩ := h
 rcases K.pick hm hn w k with ⟨h1, h2, _⟩ | ⟨j, e0, v0, h1, h2, h3, h4, h5, _⟩
 ·refine ⟨setBlock w b (.map (es.push ⟨eK k, eV v, clock⟩) (clock + 1)), ?_, ⟨_, _, heap_setBlock_same hb _, stamped_push hs (fun x hx e1 => ?_), ?_⟩, Turned.of_set hb _⟩
  ·simp [Instr.mapUpdate, run_underlying ht, MapKept.run_getObj_map hb, K.check w false k, h1, MapKept.run_setObj_map _ hb, Result.andThen, setBlock]
  ·obtain ⟨i, hi⟩ := List.getElem?_of_mem hx
   obtain ⟨p, hp, h3, _⟩ := (zipped hm).2 i x hi
   exact h2 p (List.mem_of_getElem? hp) (K.inj (h3.symm.trans e1))
  ·rw [mput_new v h2]
   simp [hm]
 ·have hj : es[j]? = some e0 := by simpa using h2
  have hkeyf : ∀ e', es[j]? = some e' → ({ e' with key := eK k, val := eV v } : MapEntry).key = e'.key := fun e' he' => by rw [hj] at he'; cases he'; exact h3.symm
  refine ⟨setBlock w b (.map (es.modify j (fun e' => { e' with key := eK k, val := eV v })) clock), ?_, ⟨_, _, heap_setBlock_same hb _, stamped_modify hs _ _ (fun _ _ => rfl) (fun e' _ he' => hkeyf e' he'), ?_⟩, Turned.of_set hb _⟩
  ·simp [Instr.mapUpdate, run_underlying ht, MapKept.run_getObj_map hb, K.check w false k, h1, hj, h3, K.stays w k, MapKept.run_setObj_map _ hb, Result.andThen, setBlock]
  ·have e1 : mput m k v = m.set j (k, v) := mput_at (p := (k, v0)) v hn h5
   rw [Array.toList_modify, modify_eq_set _ _ _ _ h2, List.map_set, hm, e1, List.map_set]
theorem MapIs.drop (h : MapIs eK eV w b m) (K : KeyOk P kt eK) {t e : TypeId} (ht : P.underlying t = some (.map kt e)) (k : κ) :
  ∃ w', (∀ ty, (Builtin.delete_ #[t, kt] ty #[.map (some b), eK k]).run P w = .ok (.tuple #[]) w') ∧ MapIs eK eV w' b (mdel m k) ∧ Turned b w w' := by
 have hn := h.nodup
 obtain ⟨es, clock, hb, hs, hm⟩ := h
 rcases K.pick hm hn w k with ⟨h1, h2, _⟩ | ⟨j, e0, v0, h1, h2, h3, h4, h5, _⟩
 ·refine ⟨setBlock w b (.map es clock), ?_, ⟨_, _, heap_setBlock_same hb _, hs, ?_⟩, Turned.of_set hb _⟩
  ·intro ty
   simp [Builtin.delete_, run_underlying ht, MapKept.run_getObj_map hb, K.check w _ k, h1, MapKept.run_setObj_map _ hb, Result.andThen, setBlock]
  ·rw [mdel_new h2]; exact hm
 ·have hjs : j < es.size := by simpa using (List.getElem?_eq_some_iff.1 h2).1
  have hsub : (es.eraseIdxIfInBounds j).toList = es.toList.eraseIdx j := by
   unfold Array.eraseIdxIfInBounds
   rw [dif_pos hjs]
   simp
  refine ⟨setBlock w b (.map (es.eraseIdxIfInBounds j) clock), ?_, ⟨_, _, heap_setBlock_same hb _, stamped_erase hs j, ?_⟩, Turned.of_set hb _⟩
  ·intro ty
   simp [Builtin.delete_, run_underlying ht, MapKept.run_getObj_map hb, K.check w _ k, h1, MapKept.run_setObj_map _ hb, Result.andThen, setBlock]
  ·have e1 : mdel m k = m.eraseIdx j := mdel_at (p := (k, v0)) hn h5
   rw [hsub, map_eraseIdx, hm, e1, map_eraseIdx]
theorem set_self_of {α : Type} : ∀ {l : List α} {j : Nat} {x : α}, l[j]? = some x → l.set j x = l
 |[], _, _, h => by simp at h
 |y :: r, 0, x, h => by simp at h; simp [h]
 |y :: r, j + 1, x, h => by
  have h' : r[j]? = some x := by simpa using h
  simp [set_self_of h']
theorem run_entryStore {W : World} {es : Array MapEntry} {clock i : Nat} {t : TypeId} {s : Int} {v : Value} (hb : W.heap[b]? = some (.map es clock)) (hi : es.findIdx? (fun e => (e.born : Int) == s) = some i) :
  (Instr.entryStore t (.map (some b)) (.int .i64 s) v).run P W = .ok () (setBlock W b (.map (es.modify i fun e => { e with val := v }) clock)) := by
 simp [Instr.entryStore, MapKept.run_getObj_map hb, asInt, asIntOf, hi, MapKept.run_setObj_map _ hb, Result.andThen, setBlock]
theorem MapIs.entry (h : MapIs eK eV w b m) (K : KeyOk P kt eK) {t e : TypeId} (ht : P.underlying t = some (.map kt e)) {z : ν} (hz : ∀ w, (zeroValue e).run P w = .ok (eV z) w) (k : κ) :
  ∃ (w1 : World) (s : Int), (Instr.mapEntry t (.map (some b)) (eK k)).run P w = .ok (.tuple #[eV ((mget m k).getD z), .int .i64 s]) w1 ∧ Turned b w w1 ∧
   (∀ c, (Instr.lookup t (.map (some b)) (eK k) c).run P w1 = .ok (if c then .tuple #[eV ((mget m k).getD z), .bool true] else eV ((mget m k).getD z)) w1) ∧
   ∀ y, ∃ w2, (Instr.entryStore t (.map (some b)) (.int .i64 s) (eV y)).run P w1 = .ok () w2 ∧ MapIs eK eV w2 b (mput m k y) ∧ Turned b w w2 := by
 have hn := h.nodup
 obtain ⟨es, clock, hb, hs, hm⟩ := h
 rcases K.pick hm hn w k with ⟨h1, h2, h3⟩ | ⟨j, e0, v0, h1, h2, h3, h4, h5, h6⟩
 ·have hnew : MapIs eK eV (setBlock w b (.map (es.push ⟨eK k, eV z, clock⟩) (clock + 1))) b (m ++ [(k, z)]) :=
   ⟨_, _, heap_setBlock_same hb _, stamped_push hs (fun x hx e1 => by
    obtain ⟨i, hi⟩ := List.getElem?_of_mem hx
    obtain ⟨p, hp, h3, _⟩ := (zipped hm).2 i x hi
    exact h2 p (List.mem_of_getElem? hp) (K.inj (h3.symm.trans e1))), by simp [hm]⟩
  have hT := Turned.of_set hb (.map (es.push ⟨eK k, eV z, clock⟩) (clock + 1))
  refine ⟨setBlock w b (.map (es.push ⟨eK k, eV z, clock⟩) (clock + 1)), clock, ?_, hT, fun c => ?_, fun y => ?_⟩
  ·rw [h3]
   simp [Instr.mapEntry, run_underlying ht, MapKept.run_getObj_map hb, K.check w false k, h1, hz w, MapKept.run_setObj_map _ hb, Result.andThen, setBlock, goInt]
  ·have := hnew.look K ht (hz _) k c
   have hg : mget (m ++ [(k, z)]) k = some z := mget_at (j := m.length) (p := (k, z)) hnew.nodup (by simp)
   rw [hg] at this
   rw [h3]
   simpa using this
  ·have hb1 := heap_setBlock_same hb (.map (es.push ⟨eK k, eV z, clock⟩) (clock + 1))
   have hi : (es.push (⟨eK k, eV z, clock⟩ : MapEntry)).findIdx? (fun e => (e.born : Int) == (clock : Int)) = some es.size := by
    rw [Array.findIdx?_push]
    have : es.findIdx? (fun e => (e.born : Int) == (clock : Int)) = none := by
     rw [Array.findIdx?_eq_none_iff]
     intro x hx
     have := hs.1 x (by simpa using hx)
     simp only [beq_eq_false_iff_ne]
     omega
    rw [this]
    simp
   have hmod : ((es.push (⟨eK k, eV z, clock⟩ : MapEntry)).modify es.size (fun e => { e with val := eV y })).toList = es.toList ++ [⟨eK k, eV y, clock⟩] := by
    rw [Array.toList_modify, modify_eq_set _ _ _ (⟨eK k, eV z, clock⟩ : MapEntry) (by simp)]
    simp
   have hst : Stamped ((es.push (⟨eK k, eV z, clock⟩ : MapEntry)).modify es.size (fun e => { e with val := eV y })) (clock + 1) :=
    stamped_modify (stamped_push hs (fun x hx e1 => by
     obtain ⟨i, hi⟩ := List.getElem?_of_mem hx
     obtain ⟨p, hp, h3, _⟩ := (zipped hm).2 i x hi
     exact h2 p (List.mem_of_getElem? hp) (K.inj (h3.symm.trans e1)))) _ _ (fun _ _ => rfl) (fun _ _ _ => rfl)
   refine ⟨_, ?_, ⟨_, _, heap_setBlock_same hb1 _, hst, ?_⟩, hT.trans (Turned.of_set hb1 _)⟩
   ·exact run_entryStore hb1 hi
   ·rw [hmod, mput_new y h2]
    simp [hm]
 ·have hj : es[j]? = some e0 := by simpa using h2
  have hw1 : (Instr.mapEntry t (.map (some b)) (eK k)).run P w = .ok (.tuple #[eV v0, .int .i64 e0.born]) (setBlock w b (.map (es.modify j (fun e => { e with key := eK k })) clock)) := by
   simp [Instr.mapEntry, run_underlying ht, MapKept.run_getObj_map hb, K.check w false k, h1, h4, hj, h3, K.stays w k, MapKept.run_setObj_map _ hb, Result.andThen, setBlock, goInt]
  have hsame : es.modify j (fun e => { e with key := eK k }) = es := by
   apply Array.ext'
   rw [Array.toList_modify, modify_eq_set _ _ _ _ h2]
   have : ({ e0 with key := eK k } : MapEntry) = e0 := by rw [← h3]
   rw [this]
   exact set_self_of h2
  rw [hsame] at hw1
  have hT := Turned.of_set hb (.map es clock)
  have hb1 := heap_setBlock_same hb (.map es clock)
  have hM : MapIs eK eV (setBlock w b (.map es clock)) b m := ⟨_, _, hb1, hs, hm⟩
  refine ⟨_, e0.born, by rw [h6]; exact hw1, hT, fun c => ?_, fun y => ?_⟩
  ·have := hM.look K ht (hz _) k c
   rw [h6] at this
   rw [h6]
   simpa using this
  ·have hi : es.findIdx? (fun e => (e.born : Int) == (e0.born : Int)) = some j := by
    rw [Array.findIdx?_eq_some_iff_getElem]
    have hjl : j < es.size := (Array.getElem?_eq_some_iff.1 hj).1
    have hje : es[j] = e0 := (Array.getElem?_eq_some_iff.1 hj).2
    refine ⟨hjl, by simp [hje], fun i hij => ?_⟩
    have hnd := hs.2.1
    have hil : i < es.toList.length := by simpa using Nat.lt_trans hij hjl
    intro e1
    have e2 : es[i].born = es[j].born := by
     simp only [beq_iff_eq, Int.natCast_inj] at e1
     rw [e1, hje]
    have hp := List.pairwise_iff_getElem.1 hnd i j (by simpa using Nat.lt_trans hij hjl) (by simpa using hjl) hij
    apply hp
    simpa using e2
   have hst := stamped_modify hs j (fun e => { e with val := eV y }) (fun _ _ => rfl) (fun _ _ _ => rfl)
   refine ⟨_, ?_, ⟨_, _, heap_setBlock_same hb1 _, hst, ?_⟩, hT.trans (Turned.of_set hb1 _)⟩
   ·exact run_entryStore hb1 hi
   ·have e1 : mput m k y = m.set j (k, y) := mput_at (p := (k, v0)) y hn h5
    rw [Array.toList_modify, modify_eq_set _ _ _ _ h2, List.map_set, hm, e1, List.map_set, h3]
variable {ops : Array Oper} {rest : List Oper} {o : Oper} {a : Act} {Q : Exit → Act → World → Prop}
end
/-! Keys: strings; structs whose '==' is known. -/
theorem asking {P : Program} {κ : Type} [DecidableEq κ] {kt : TypeId} {eK : κ → Value} (hq : ∀ a b w, (Op.equal kt (eK a) (eK b)).run P w = .ok (decide (a = b)) w) (w : World) (x : κ) : ∀ (es : List MapEntry) (i : Nat), (∀ e ∈ es, ∃ y, e.key = eK y) →
  ((Instr.findAsking kt (eK x) es i).run P w = .ok none w ∧ ∀ e ∈ es, e.key ≠ eK x) ∨ ∃ j e, (Instr.findAsking kt (eK x) es i).run P w = .ok (some (i + j, e.val)) w ∧ es[j]? = some e ∧ e.key = eK x
 |[], i, _ => .inl ⟨by simp [Instr.findAsking], by simp⟩
 |e :: es, i, h => by
  obtain ⟨y, hy⟩ := h e (by simp)
  by_cases hxy : x = y
  ·subst hxy
   exact .inr ⟨0, e, by simp [Instr.findAsking, hy, hq, Result.andThen], rfl, hy⟩
  ·have hne : e.key ≠ eK x := fun h1 => by
    have h2 := hq x y w
    have h3 := hq x x w
    rw [← hy, h1, h3] at h2
    simp [hxy] at h2
   rcases asking hq w x es (i + 1) (fun e' he' => h e' (by simp [he'])) with ⟨h1, h2⟩ | ⟨j, e', h1, h2, h3⟩
   ·exact .inl ⟨by simp [Instr.findAsking, hy, hq, hxy, Result.andThen, h1], fun e' he' => by
     rcases List.mem_cons.1 he' with rfl | he'
     ·exact hne
     ·exact h2 e' he'⟩
   ·exact .inr ⟨j + 1, e', by simp [Instr.findAsking, hy, hq, hxy, Result.andThen, h1]; omega, by simpa using h2, h3⟩
theorem key_struct {P : Program} {κ : Type} [DecidableEq κ] {kt : TypeId} {fs : Array Field} {eK : κ → Value} (hk : P.underlying kt = some (.struct fs)) (hagg : ∀ a, ∃ cs, eK a = .agg cs) (hinj : ∀ {a b : κ}, eK a = eK b → a = b)
  (hq : ∀ a b w, (Op.equal kt (eK a) (eK b)).run P w = .ok (decide (a = b)) w) (hc : ∀ (w : World) (em : Bool) (k : κ), (Instr.checkKey em 10000 kt (eK k)).run P w = .ok () w) (hb : ∀ k, Instr.sameBits 10000 (eK k) (eK k) = true) : KeyOk P kt eK where
 inj := hinj
 check := hc
 find w x es hes := by
  cases es with
  |nil => exact .inl ⟨by simp [Instr.findKey, run_underlying hk, Result.andThen, Instr.findNow], by simp⟩
  |cons e es =>
   obtain ⟨y, hy⟩ := hes e (by simp)
   have h0 : Instr.findNow (.struct fs) (eK x) (e :: es) 0 = none := by
    obtain ⟨cs, h1⟩ := hagg x
    rw [h1]
    rfl
   have h1 : (Instr.findKey kt (eK x) (e :: es)).run P w = (Instr.findAsking kt (eK x) (e :: es) 0).run P w := by
    simp [Instr.findKey, run_underlying hk, Result.andThen, h0]
   rw [h1]
   rcases asking hq w x (e :: es) 0 hes with h | ⟨j, e', h2, h3, h4⟩
   ·exact .inl h
   ·exact .inr ⟨j, e', by simpa using h2, h3, h4⟩
 stays w k := by simp [Instr.keyThatStays, hb]
end Go.Proofs.YteaalifehokgoaaGreatDoor
