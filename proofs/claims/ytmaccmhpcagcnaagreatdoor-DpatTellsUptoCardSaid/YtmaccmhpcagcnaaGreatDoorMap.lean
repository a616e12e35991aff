/-
  dpat's map of fields: a law at the insertion of a new key, and the walks of weekly and fields.
-/
import Derived.Test.YtmaccmhpcagcnaaGreatDoorWeek
import Derived.Maps.Own
namespace Go.Proofs.YtmaccmhpcagcnaaGreatDoor
open Go.RowKit

theorem uMap : Tryz.prog.underlying 57 = some (.map 9 43) := by kernel_rfl
theorem uStr : Tryz.prog.underlying 9 = some .string := by kernel_rfl

/-- a map of the call's own, with the blocks that were made behind it -/
structure MapW (w0 w : World) (es : Array MapEntry) (c : Nat) (fs : List Value) : Prop where
  below : Below w0.heap.size w0 w
  block : w.heap[w0.heap.size]? = some (.map es c)
  size : w.heap.size = w0.heap.size + 1 + fs.length
  box : ∀ i v, fs[i]? = some v → w.heap[w0.heap.size + 1 + i]? = some (.cells #[v] 85)

theorem MapW.made (w : World) : MapW w (w.alloc (.map #[] 0)) #[] 0 [] :=
  ⟨(Below.refl _ _).alloc (by simp) _, by show (w.heap.push _)[_]? = _; simp, by simp, fun i v h => by simp at h⟩

theorem MapW.alloc {w0 w : World} {es : Array MapEntry} {c : Nat} {fs : List Value} (h : MapW w0 w es c fs) (v : Value) : MapW w0 (w.alloc (.cells #[v] 85)) es c (fs ++ [v]) := by
  have hs := h.size
  refine ⟨h.below.alloc (by omega) _, ?_, by simp; omega, fun i u hi => ?_⟩
  · rw [Below.heap_alloc _ _ _ (by omega)]; exact h.block
  · by_cases hlt : i < fs.length
    · rw [List.getElem?_append_left hlt] at hi
      have hsz : w0.heap.size + 1 + i < w.heap.size := by omega
      rw [Below.heap_alloc _ _ _ hsz]; exact h.box i u hi
    · rw [List.getElem?_append_right (by omega)] at hi
      have hi0 : i - fs.length = 0 := by
        by_cases e : i - fs.length = 0
        · exact e
        · have : ([v] : List Value)[i - fs.length]? = none := by simp; omega
          rw [this] at hi; cases hi
      rw [hi0] at hi
      have hv : v = u := by simpa using hi
      subst hv
      have e : w0.heap.size + 1 + i = w.heap.size := by omega
      rw [e]; show (w.heap.push _)[_]? = _; simp

theorem MapW.put {w0 w : World} {es : Array MapEntry} {c : Nat} {fs : List Value} (h : MapW w0 w es c fs) (e : MapEntry) :
    MapW w0 { w with heap := w.heap.setIfInBounds w0.heap.size (.map (es.push e) (c + 1)) } (es.push e) (c + 1) fs := by
  have hs := h.size
  have hk := MapKept.heap_set (o' := .map (es.push e) (c + 1)) h.block
  refine ⟨⟨h.below.os, h.below.tape, h.below.output, by simpa using h.below.size, fun k hk' => ?_⟩, hk.1, by simpa using hs, fun i u hi => ?_⟩
  · exact (hk.2 k (by omega)).trans (h.below.block k hk')
  · exact (hk.2 _ (by omega)).trans (h.box i u hi)

/-- a new key, at the operation -/
theorem wpList_insert_new (w0 w : World) {ops : Array Oper} {rest : List Oper} {o : Oper} {a : Act} {Q : Exit → Act → World → Prop}
    (hg : o.guard = none) (m x v : Operand) (hop : o.op = Op.insert 57 m x v) (es : Array MapEntry) (c : Nat) (fs : List Value) (s : ByteArray) (val : Value)
    (hm : a.eval m = .map (some w0.heap.size)) (hx : a.eval x = .string s) (hv : a.eval v = val) (hM : MapW w0 w es c fs) (hf : Instr.findNow .string (.string s) es.toList 0 = some none)
    (hK : ∀ w', MapW w0 w' (es.push ⟨.string s, val, c⟩) (c + 1) fs → wpList Tryz.prog ops Q rest (a.put o.dst undef) w') :
    wpList Tryz.prog ops Q (o :: rest) a w := by
  refine wpList_plain hg fun K' hK' => ?_
  have hc : (Instr.checkKey false 10000 9 (.string s)).run Tryz.prog w = .ok () w := MapKept.run_checkKey (k := .string s) uStr (by simp [MapKept.IsKey]) false 9999
  have hrun : (Instr.mapUpdate 57 (.map (some w0.heap.size)) (.string s) val).run Tryz.prog w = .ok () { w with heap := w.heap.setIfInBounds w0.heap.size (.map (es.push ⟨.string s, val, c⟩) (c + 1)) } := by
    simp [Instr.mapUpdate, run_underlying uMap, MapKept.run_getObj_map hM.block, hc, MapKept.run_findKey uStr hf, MapKept.run_setObj_map _ hM.block, Result.andThen]
  unfold Oper.wp
  simp [execOp, hop, hm, hx, hv, hrun, Result.andThen]
  exact hK' _ _ (hK _ (hM.put _))

/-- a function without captured variables -/
def fnV (g : Nat) : Value := .func (.func g) #[] #[]
/-- the closure that weekly makes -/
def wkV (b : Nat) : Value := .func (.func 72) #[] #[.pointer (some ⟨b, 0, none⟩)]

theorem weekly_any (g : Nat) (w : World) (B : Nat) (hB : w.heap.size = B) :
    Calls Tryz.prog 50 #[fnV g] w fun e w' => e = .returned (.func (.func 72) #[] #[.pointer (some ⟨B, 0, none⟩)]) ∧ w' = w.alloc (.cells #[fnV g] 85) := by
  subst hB
  unfold fnV
  go_enter Tryz.func50, Tryz.ntmps50
  go_wp2_with fail
  go_ret
  exact ⟨rfl, rfl⟩

/-- a field of a day -/
def fieldV (f : Value) (n : Int) : Value := .agg #[f, .int .i64 n]

def fieldsV (B : Nat) : Array MapEntry := #[
  ⟨.string ⟨#[121]⟩, fieldV (fnV 46) 1, 0⟩,
  ⟨.string ⟨#[121, 121, 121, 121]⟩, fieldV (fnV 46) 4, 1⟩,
  ⟨.string ⟨#[77]⟩, fieldV (fnV 47) 1, 2⟩,
  ⟨.string ⟨#[77, 77]⟩, fieldV (fnV 47) 2, 3⟩,
  ⟨.string ⟨#[100]⟩, fieldV (fnV 48) 1, 4⟩,
  ⟨.string ⟨#[100, 100]⟩, fieldV (fnV 48) 2, 5⟩,
  ⟨.string ⟨#[68, 68, 68]⟩, fieldV (fnV 49) 3, 6⟩,
  ⟨.string ⟨#[89, 89, 89, 89]⟩, fieldV (wkV (B + 1)) 4, 7⟩,
  ⟨.string ⟨#[119, 119]⟩, fieldV (wkV (B + 1 + 1)) 2, 8⟩,
  ⟨.string ⟨#[101]⟩, fieldV (wkV (B + 1 + 2)) 1, 9⟩]

set_option maxHeartbeats 1000000 in
set_option maxRecDepth 100000 in
theorem fields_any (w : World) : Calls Tryz.prog 26 #[] w fun e w' => e = .returned (.map (some w.heap.size)) ∧
    MapW w w' (fieldsV w.heap.size) 10 [fnV 51, fnV 52, fnV 53] := by
  have hM := MapW.made w
  have hmm := @run_makeMap Tryz.prog
  go_enter Tryz.func26, Tryz.ntmps26
  go_wp2_with (first
    | ((with_reducible refine wpList_insert_new w _ rfl _ _ _ rfl _ _ _ _ _ rfl rfl rfl (by assumption) rfl ?_); clear hM; intro w1 hM)
    | (go_at_call 50; have hS := hM.size; have hW := weekly_any 51 _ _ hS; refine hW.mono ?_; rintro e w2 ⟨rfl, rfl⟩; replace hM := hM.alloc (fnV 51); clear hS hW)
    | (go_at_call 50; have hS := hM.size; have hW := weekly_any 52 _ _ hS; refine hW.mono ?_; rintro e w2 ⟨rfl, rfl⟩; replace hM := hM.alloc (fnV 52); clear hS hW)
    | (go_at_call 50; have hS := hM.size; have hW := weekly_any 53 _ _ hS; refine hW.mono ?_; rintro e w2 ⟨rfl, rfl⟩; replace hM := hM.alloc (fnV 53); clear hS hW))
  go_ret
  exact ⟨rfl, hM⟩

end Go.Proofs.YtmaccmhpcagcnaaGreatDoor
