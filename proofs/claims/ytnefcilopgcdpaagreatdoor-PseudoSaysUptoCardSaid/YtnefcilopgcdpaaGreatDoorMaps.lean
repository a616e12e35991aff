/-
  Maps that the call makes, as lists of pairs: laws at the insertion of a new key and at the lookup, whatever the elements are.
-/
import Derived.Test.YtnefcilopgcdpaaGreatDoorBase
import Derived.Maps.Own
import Derived.Maps.OwnOps
namespace Go.Proofs.YtnefcilopgcdpaaGreatDoor
open Go.RowKit

/-- block b is a map of these pairs, in the order of their insertion -/
def MapIs (w : World) (b : Nat) (l : List (Value × Value)) : Prop := ∃ es c, w.heap[b]? = some (.map es c) ∧ es.toList.map (fun e => (e.key, e.val)) = l
theorem MapIs.made (w : World) : MapIs (w.alloc (.map #[] 0)) w.heap.size [] := ⟨#[], 0, by show (w.heap.push _)[_]? = _; simp, rfl⟩
theorem MapIs.lt {w : World} {b : Nat} {l : List (Value × Value)} (h : MapIs w b l) : b < w.heap.size := by
  obtain ⟨es, c, hb, _⟩ := h
  exact (Array.getElem?_eq_some_iff.1 hb).1
theorem MapIs.block {w w' : World} {b : Nat} {l : List (Value × Value)} (h : MapIs w b l) (hb : w'.heap[b]? = w.heap[b]?) : MapIs w' b l := by
  obtain ⟨es, c, h1, h2⟩ := h
  exact ⟨es, c, hb.trans h1, h2⟩
theorem MapIs.below {w w' : World} {b : Nat} {l : List (Value × Value)} (h : MapIs w b l) (hb : Below w.heap.size w w') : MapIs w' b l := h.block (hb.block b h.lt)
theorem MapIs.grown {w w' : World} {b : Nat} {l : List (Value × Value)} {row : Option Nat} (h : MapIs w b l) (hg : w.grownBy w' row) (hr : some b ≠ row) : MapIs w' b l := h.block (hg.block b h.lt hr)

theorem find_none {d : TypeDesc} {k : Value} (hk : MapKept.IsKey d k) : ∀ (es : List MapEntry) (i : Nat), (∀ e ∈ es, MapKept.IsKey d e.key ∧ e.key ≠ k) → Instr.findNow d k es i = some none
  | [], _, _ => rfl
  | e :: es, i, h => by
    obtain ⟨r, hr, hiff⟩ := MapKept.sameNow_of_keys hk (h e (.head _)).1
    cases r with
    | true => exact absurd (hiff.1 rfl).symm (h e (.head _)).2
    | false => simp only [Instr.findNow, hr]; exact find_none hk es (i + 1) (fun x hx => h x (.tail _ hx))
theorem find_some {d : TypeDesc} {k v : Value} (hk : MapKept.IsKey d k) : ∀ (pre : List (Value × Value)) (post : List (Value × Value)) (es : List MapEntry) (i : Nat), (∀ e ∈ es, MapKept.IsKey d e.key) → es.map (fun e => (e.key, e.val)) = pre ++ (k, v) :: post →
    (∀ p ∈ pre, p.1 ≠ k) → ∃ j, Instr.findNow d k es i = some (some (j, v))
  | _, _, [], _, _, h, _ => by simp at h
  | [], post, e :: es, i, hes, h, _ => by
    simp only [List.map_cons, List.nil_append, List.cons.injEq, Prod.mk.injEq] at h
    obtain ⟨⟨h1, h2⟩, _⟩ := h
    obtain ⟨r, hr, hiff⟩ := MapKept.sameNow_of_keys hk (hes e (.head _))
    cases r with
    | true => exact ⟨i, by simp only [Instr.findNow, hr]; rw [h2]⟩
    | false => have := hiff.2 h1.symm; cases this
  | p :: pre, post, e :: es, i, hes, h, hp => by
    simp only [List.map_cons, List.cons_append, List.cons.injEq] at h
    obtain ⟨h1, h2⟩ := h
    obtain ⟨r, hr, hiff⟩ := MapKept.sameNow_of_keys hk (hes e (.head _))
    cases r with
    | true =>
      have := hp p (.head _)
      rw [← h1] at this
      exact absurd (hiff.1 rfl).symm this
    | false => simp only [Instr.findNow, hr]; exact find_some hk pre post es (i + 1) (fun x hx => hes x (.tail _ hx)) h2 (fun q hq => hp q (.tail _ hq))

variable {P : Program}
/-- what a map's type is: keys of a plain kind -/
structure MapTy (P : Program) (t k e : TypeId) (d : TypeDesc) : Prop where
  map : P.underlying t = some (.map k e)
  key : P.underlying k = some d
theorem keys_all {d : TypeDesc} {es : List MapEntry} {l : List (Value × Value)} (h : es.map (fun e => (e.key, e.val)) = l) (hl : ∀ p ∈ l, MapKept.IsKey d p.1) : ∀ e ∈ es, MapKept.IsKey d e.key := by
  intro e he
  exact hl (e.key, e.val) (by rw [← h]; exact List.mem_map.2 ⟨e, he, rfl⟩)
theorem keys_not {es : List MapEntry} {l : List (Value × Value)} {k : Value} (h : es.map (fun e => (e.key, e.val)) = l) (hl : ∀ p ∈ l, p.1 ≠ k) : ∀ e ∈ es, e.key ≠ k := by
  intro e he
  exact hl (e.key, e.val) (by rw [← h]; exact List.mem_map.2 ⟨e, he, rfl⟩)

theorem run_put_new {t k e : TypeId} {d : TypeDesc} (T : MapTy P t k e d) {w : World} {b : Nat} {l : List (Value × Value)} (hM : MapIs w b l) (hl : ∀ p ∈ l, MapKept.IsKey d p.1) {key val : Value} (hk : MapKept.IsKey d key) (hn : ∀ p ∈ l, p.1 ≠ key) :
    ∃ w', (Instr.mapUpdate t (.map (some b)) key val).run P w = .ok () w' ∧ MapIs w' b (l ++ [(key, val)]) ∧ w.grownBy w' (some b) ∧ w'.heap.size = w.heap.size := by
  obtain ⟨es, c, hb, he⟩ := hM
  have hc : (Instr.checkKey false 10000 k key).run P w = .ok () w := MapKept.run_checkKey T.key hk false 9999
  have hf : Instr.findNow d key es.toList 0 = some none := find_none hk es.toList 0 fun x hx => ⟨keys_all he hl x hx, keys_not he hn x hx⟩
  have hs := MapKept.heap_set (o' := .map (es.push ⟨key, val, c⟩) (c + 1)) hb
  refine ⟨{ w with heap := w.heap.setIfInBounds b (.map (es.push ⟨key, val, c⟩) (c + 1)) }, ?_, ⟨_, _, hs.1, ?_⟩, ⟨rfl, rfl, rfl, by simp, fun i _ hi => hs.2 i (fun e => hi (by rw [e]))⟩, by simp⟩
  · simp [Instr.mapUpdate, run_underlying T.map, MapKept.run_getObj_map hb, hc, MapKept.run_findKey T.key hf, MapKept.run_setObj_map _ hb, Result.andThen]
  · rw [Array.toList_push, List.map_append, he]; rfl

theorem wpList_insert_map {t k e : TypeId} {d : TypeDesc} (T : MapTy P t k e d) (w : World) {ops : Array Oper} {rest : List Oper} {o : Oper} {a : Act} {Q : Exit → Act → World → Prop}
    (hg : o.guard = none) (m x v : Operand) (hop : o.op = Op.insert t m x v) (b : Nat) (l : List (Value × Value)) (key val : Value)
    (hm : a.eval m = .map (some b)) (hx : a.eval x = key) (hv : a.eval v = val) (hM : MapIs w b l) (hl : ∀ p ∈ l, MapKept.IsKey d p.1) (hk : MapKept.IsKey d key) (hn : ∀ p ∈ l, p.1 ≠ key)
    (hK : ∀ w', MapIs w' b (l ++ [(key, val)]) → w.grownBy w' (some b) → w'.heap.size = w.heap.size → wpList P ops Q rest (a.put o.dst undef) w') :
    wpList P ops Q (o :: rest) a w := by
  refine wpList_plain hg fun K' hK' => ?_
  obtain ⟨w', hrun, h1, h2, h3⟩ := run_put_new T hM hl (val := val) hk hn
  unfold Oper.wp
  simp [execOp, hop, hm, hx, hv, hrun, Result.andThen]
  exact hK' _ _ (hK _ h1 h2 h3)
theorem wpList_update_map {t k e : TypeId} {d : TypeDesc} (T : MapTy P t k e d) (w : World) {ops : Array Oper} {rest : List Oper} {o : Oper} {a : Act} {Q : Exit → Act → World → Prop}
    (hg : o.guard = none) (m x v : Operand) (hop : o.op = Op.mapUpdate t m x v) (b : Nat) (l : List (Value × Value)) (key val : Value)
    (hm : a.eval m = .map (some b)) (hx : a.eval x = key) (hv : a.eval v = val) (hM : MapIs w b l) (hl : ∀ p ∈ l, MapKept.IsKey d p.1) (hk : MapKept.IsKey d key) (hn : ∀ p ∈ l, p.1 ≠ key)
    (hK : ∀ w', MapIs w' b (l ++ [(key, val)]) → w.grownBy w' (some b) → w'.heap.size = w.heap.size → wpList P ops Q rest (a.put o.dst undef) w') :
    wpList P ops Q (o :: rest) a w := by
  refine wpList_plain hg fun K' hK' => ?_
  obtain ⟨w', hrun, h1, h2, h3⟩ := run_put_new T hM hl (val := val) hk hn
  unfold Oper.wp
  simp [execOp, hop, hm, hx, hv, hrun, Result.andThen]
  exact hK' _ _ (hK _ h1 h2 h3)

/-- what a lookup hands back -/
def lookV (ok : Bool) (z : Value) : Option Value → Value
  | none => if ok then .tuple #[z, .bool false] else z
  | some v => if ok then .tuple #[v, .bool true] else v
/-- the answer of a list of pairs at a key -/
inductive Looks (l : List (Value × Value)) (key : Value) : Option Value → Prop where
  | none (h : ∀ p ∈ l, p.1 ≠ key) : Looks l key none
  | some (pre post : List (Value × Value)) (v : Value) (h : l = pre ++ (key, v) :: post) (hp : ∀ p ∈ pre, p.1 ≠ key) : Looks l key (some v)
theorem run_look {t k e : TypeId} {d : TypeDesc} (T : MapTy P t k e d) {z : Value} (hz : ∀ w, (zeroValue e).run P w = .ok z w) {w : World} {b : Nat} {l : List (Value × Value)} (hM : MapIs w b l) (hl : ∀ p ∈ l, MapKept.IsKey d p.1) {key : Value} (hk : MapKept.IsKey d key)
    {r : Option Value} (hr : Looks l key r) (ok : Bool) : (Instr.lookup t (.map (some b)) key ok).run P w = .ok (lookV ok z r) w := by
  obtain ⟨es, c, hb, he⟩ := hM
  have hc : (Instr.checkKey es.isEmpty 10000 k key).run P w = .ok () w := MapKept.run_checkKey T.key hk _ 9999
  cases hr with
  | none h =>
    have hf : Instr.findNow d key es.toList 0 = some none := find_none hk es.toList 0 fun x hx => ⟨keys_all he hl x hx, keys_not he h x hx⟩
    cases ok <;> simp [Instr.lookup, run_underlying T.map, MapKept.run_getObj_map hb, hc, MapKept.run_findKey T.key hf, Result.andThen, lookV, hz]
  | some pre post v h hp =>
    obtain ⟨j, hf⟩ := find_some hk pre post es.toList 0 (keys_all he hl) (he.trans h) hp
    cases ok <;> simp [Instr.lookup, run_underlying T.map, MapKept.run_getObj_map hb, hc, MapKept.run_findKey T.key hf, Result.andThen, lookV]
theorem wpList_look_map {t k e : TypeId} {d : TypeDesc} (T : MapTy P t k e d) {z : Value} (hz : ∀ w, (zeroValue e).run P w = .ok z w) (w : World) {ops : Array Oper} {rest : List Oper} {o : Oper} {a : Act} {Q : Exit → Act → World → Prop}
    (hg : o.guard = none) (m x : Operand) (ok : Bool) (hop : o.op = Op.lookup t m x ok) (b : Nat) (l : List (Value × Value)) (key : Value)
    (hm : a.eval m = .map (some b)) (hx : a.eval x = key) (hM : MapIs w b l) (hl : ∀ p ∈ l, MapKept.IsKey d p.1) (hk : MapKept.IsKey d key) (r : Option Value) (hr : Looks l key r)
    (hK : wpList P ops Q rest (a.put o.dst (lookV ok z r)) w) :
    wpList P ops Q (o :: rest) a w := by
  refine wpList_plain hg fun K' hK' => ?_
  have hrun := run_look T hz hM hl hk hr ok
  unfold Oper.wp
  simp [execOp, hop, hm, hx, hrun, Result.andThen]
  exact hK' _ _ hK
end Go.Proofs.YtnefcilopgcdpaaGreatDoor
