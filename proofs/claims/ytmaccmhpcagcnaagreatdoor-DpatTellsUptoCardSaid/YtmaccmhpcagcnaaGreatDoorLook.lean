/-
  dpat's map of fields: a law at the lookup of a key, and what a piece is in a world.
-/
import Derived.Test.YtmaccmhpcagcnaaGreatDoorDpA
import Derived.Test.YtmaccmhpcagcnaaGreatDoorPdpat
import Derived.Maps.OwnOps
import Derived.Laws.EntriesVeiled
namespace Go.Proofs.YtmaccmhpcagcnaaGreatDoor
open Go.RowKit

/-- the value of a row of the table of fields -/
def valAt (B k : Nat) : Value := ((fieldsV B).toList.map (·.val)).getD k .nilFunc
def zeroF : Value := .agg #[.nilFunc, .int .i64 0]
theorem zeroField (w : World) : (zeroValue 43).run Tryz.prog w = .ok zeroF w := by kernel_rfl

theorem keys_eq (B : Nat) : (fieldsV B).toList.map (·.key) = Dp.keys.map fun l => Value.string ⟨l.toArray⟩ := rfl
theorem str_of_list {s : ByteArray} {l : List UInt8} (h : Value.string s = Value.string ⟨l.toArray⟩) : s.data.toList = l := by
  cases h; simp
theorem find_fields (B : Nat) (s : ByteArray) : Instr.findNow .string (.string s) (fieldsV B).toList 0 = some ((Dp.rowOf s.data.toList).map fun k => (k, valAt B k)) := by
  have hks : ∀ x ∈ (fieldsV B).toList, MapKept.IsKey .string x.key := by
    intro x hx
    have : x.key ∈ (fieldsV B).toList.map (·.key) := List.mem_map.2 ⟨x, hx, rfl⟩
    rw [keys_eq] at this
    obtain ⟨l, _, hl⟩ := List.mem_map.1 this
    rw [← hl]; simp [MapKept.IsKey]
  rcases MapKept.findNow_spec (k := .string s) (by simp [MapKept.IsKey]) (fieldsV B).toList 0 hks with ⟨h1, h2⟩ | ⟨j, e, h1, h2, h3⟩
  · rw [h1]
    have hn : Dp.rowOf s.data.toList = none := by
      unfold Dp.rowOf
      rw [List.findIdx?_eq_none_iff]
      intro l hl
      apply Bool.eq_false_iff.2
      intro hb
      have hb' : l = s.data.toList := by simpa using hb
      have hm : Value.string ⟨l.toArray⟩ ∈ (fieldsV B).toList.map (·.key) := by rw [keys_eq]; exact List.mem_map.2 ⟨l, hl, rfl⟩
      obtain ⟨x, hx, hxk⟩ := List.mem_map.1 hm
      refine h2 x hx ?_
      rw [hxk, hb', strOf_ext]
    rw [hn]; rfl
  · rw [h1, Nat.zero_add]
    have hj : j < 10 := by
      have := (List.getElem?_eq_some_iff.1 h2).1
      exact this
    have hk : (Dp.keys.map fun l => Value.string ⟨l.toArray⟩)[j]? = some (.string s) := by
      rw [← keys_eq B, List.getElem?_map, h2]; exact congrArg some h3
    have hv : valAt B j = e.val := by
      unfold valAt
      rw [List.getD_eq_getElem?_getD, List.getElem?_map, h2]; rfl
    rw [← hv]
    rw [List.getElem?_map] at hk
    obtain ⟨l, hl, he⟩ : ∃ l, Dp.keys[j]? = some l ∧ s.data.toList = l := by
      cases hq : Dp.keys[j]? with
      | none => rw [hq] at hk; cases hk
      | some l => rw [hq] at hk; exact ⟨l, rfl, str_of_list (Option.some.inj hk).symm⟩
    have hr : Dp.rowOf l = some j := by
      match j, hj, hl with
      | 0, _, hl => cases hl; rfl
      | 1, _, hl => cases hl; rfl
      | 2, _, hl => cases hl; rfl
      | 3, _, hl => cases hl; rfl
      | 4, _, hl => cases hl; rfl
      | 5, _, hl => cases hl; rfl
      | 6, _, hl => cases hl; rfl
      | 7, _, hl => cases hl; rfl
      | 8, _, hl => cases hl; rfl
      | 9, _, hl => cases hl; rfl
    rw [he]
    rw [hr]; rfl

/-- what a lookup in the table hands back -/
def lookOut (B : Nat) : Option Nat → Value
  | none => .tuple #[zeroF, .bool false]
  | some k => .tuple #[valAt B k, .bool true]

theorem wpList_lookup_fields (w0 w : World) {ops : Array Oper} {rest : List Oper} {o : Oper} {a : Act} {Q : Exit → Act → World → Prop} (c : Nat) (fs : List Value) (hM : MapW w0 w (fieldsV w0.heap.size) c fs)
    (s : ByteArray) (r : Option Nat) (hr : Dp.rowOf s.data.toList = r)
    (hg : o.guard = none) (m x : Operand) (hop : o.op = Op.lookup 57 m x true)
    (hm : a.eval m = .map (some w0.heap.size)) (hx : a.eval x = .string s)
    (hK : wpList Tryz.prog ops Q rest (a.put o.dst (lookOut w0.heap.size r)) w) :
    wpList Tryz.prog ops Q (o :: rest) a w := by
  subst hr
  refine wpList_plain hg fun K' hK' => ?_
  have hc : (Instr.checkKey (fieldsV w0.heap.size).isEmpty 10000 9 (.string s)).run Tryz.prog w = .ok () w := MapKept.run_checkKey (k := .string s) uStr (by simp [MapKept.IsKey]) _ 9999
  have hf := find_fields w0.heap.size s
  have hrun : (Instr.lookup 57 (.map (some w0.heap.size)) (.string s) true).run Tryz.prog w = .ok (lookOut w0.heap.size (Dp.rowOf s.data.toList)) w := by
    cases hq : Dp.rowOf s.data.toList with
    | none =>
      rw [hq] at hf
      simp [Instr.lookup, run_underlying uMap, MapKept.run_getObj_map hM.block, hc, MapKept.run_findKey uStr hf, Result.andThen, lookOut, zeroF]
    | some k =>
      rw [hq] at hf
      simp [Instr.lookup, run_underlying uMap, MapKept.run_getObj_map hM.block, hc, MapKept.run_findKey uStr hf, Result.andThen, lookOut]
  unfold Oper.wp
  simp [execOp, hop, hm, hx, hrun, Result.andThen]
  exact hK' _ _ hK

theorem wpList_lookup_none (w0 w : World) {ops : Array Oper} {rest : List Oper} {o : Oper} {a : Act} {Q : Exit → Act → World → Prop} (c : Nat) (fs : List Value) (hM : MapW w0 w (fieldsV w0.heap.size) c fs)
    (s : ByteArray) (hr : Dp.rowOf s.data.toList = none)
    (hg : o.guard = none) (m x : Operand) (hop : o.op = Op.lookup 57 m x true)
    (hm : a.eval m = .map (some w0.heap.size)) (hx : a.eval x = .string s)
    (hK : wpList Tryz.prog ops Q rest (a.put o.dst (.tuple #[.agg #[.nilFunc, .int .i64 0], .bool false])) w) :
    wpList Tryz.prog ops Q (o :: rest) a w :=
  wpList_lookup_fields w0 w c fs hM s none hr hg m x hop hm hx hK
theorem wpList_lookup_some (w0 w : World) {ops : Array Oper} {rest : List Oper} {o : Oper} {a : Act} {Q : Exit → Act → World → Prop} (c : Nat) (fs : List Value) (hM : MapW w0 w (fieldsV w0.heap.size) c fs)
    (s : ByteArray) (k : Nat) (fn : Fn) (cap : Array Value) (n : Int) (hr : Dp.rowOf s.data.toList = some k) (hv : valAt w0.heap.size k = .agg #[.func fn #[] cap, .int .i64 n])
    (hg : o.guard = none) (m x : Operand) (hop : o.op = Op.lookup 57 m x true)
    (hm : a.eval m = .map (some w0.heap.size)) (hx : a.eval x = .string s)
    (hK : wpList Tryz.prog ops Q rest (a.put o.dst (.tuple #[.agg #[.func fn #[] cap, .int .i64 n], .bool true])) w) :
    wpList Tryz.prog ops Q (o :: rest) a w :=
  wpList_lookup_fields w0 w c fs hM s (some k) hr hg m x hop hm hx (by show wpList _ _ _ _ (a.put _ (.tuple #[valAt w0.heap.size k, .bool true])) _; rw [hv]; exact hK)
theorem valAt_agg (B k : Nat) (hk : k < 10) : ∃ fn cap n, valAt B k = .agg #[.func fn #[] cap, .int .i64 n] := by
  match k, hk with
  | 0, _ => exact ⟨_, _, _, rfl⟩
  | 1, _ => exact ⟨_, _, _, rfl⟩
  | 2, _ => exact ⟨_, _, _, rfl⟩
  | 3, _ => exact ⟨_, _, _, rfl⟩
  | 4, _ => exact ⟨_, _, _, rfl⟩
  | 5, _ => exact ⟨_, _, _, rfl⟩
  | 6, _ => exact ⟨_, _, _, rfl⟩
  | 7, _ => exact ⟨_, _, _, rfl⟩
  | 8, _ => exact ⟨_, _, _, rfl⟩
  | 9, _ => exact ⟨_, _, _, rfl⟩

/-- what a piece is, in a world: the field's value, and the text -/
inductive PieceIs (w : World) : Dp.Piece → Value → ByteArray → Prop where
  | txt (t : ByteArray) : PieceIs w (.txt t.data.toList) zeroF t
  | fld (B k : Nat) (hk : k < 10) (h1 : w.cell? ⟨B + 1, 0, none⟩ = some (fnV 51)) (h2 : w.cell? ⟨B + 1 + 1, 0, none⟩ = some (fnV 52)) (h3 : w.cell? ⟨B + 1 + 2, 0, none⟩ = some (fnV 53)) :
      PieceIs w (.fld k) (valAt B k) ⟨#[]⟩

theorem box_cell {w : World} {b : Nat} {v : Value} {T : TypeId} (h : w.heap[b]? = some (.cells #[v] T)) : w.cell? ⟨b, 0, none⟩ = some v := by
  simp [World.cell?, h]
theorem pieceIs_of_map {w0 w w1 : World} {es : Array MapEntry} {c k : Nat} (hk : k < 10) (hM : MapW w0 w es c [fnV 51, fnV 52, fnV 53]) (hb : Below w.heap.size w w1) : PieceIs w1 (.fld k) (valAt w0.heap.size k) ⟨#[]⟩ := by
  have hs : w.heap.size = w0.heap.size + 1 + 3 := hM.size
  refine .fld _ k hk ?_ ?_ ?_
  · rw [hb.cell (p := ⟨_, _, none⟩) (by simp; omega)]; exact box_cell (hM.box 0 _ rfl)
  · rw [hb.cell (p := ⟨_, _, none⟩) (by simp; omega)]; exact box_cell (hM.box 1 _ rfl)
  · rw [hb.cell (p := ⟨_, _, none⟩) (by simp; omega)]; exact box_cell (hM.box 2 _ rfl)
end Go.Proofs.YtmaccmhpcagcnaaGreatDoor
