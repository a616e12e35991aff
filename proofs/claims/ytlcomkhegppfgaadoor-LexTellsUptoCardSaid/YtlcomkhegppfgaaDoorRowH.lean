/-
  For rows that list errors.errorType (the library's handle of the type error): what the list gives, and a start that meets it.
-/
import Derived.Test.YtlcomkhegppfgaaDoorRow
import Derived.Test.YtlcomkhegppfgaaDoorErr
import Derived.LaidHandle
namespace Go.Proofs.YtlcomkhegppfgaaDoor
open Go.ChangeShapes Go.WideShapes Go.ChangeAt Go.RowKit

theorem etNamed : Tryd.prog.globalNamed "errors.errorType" = some 0 := by kernel_rfl
theorem etRtype : (Tryd.prog.cutTypes.find? (·.1 == "internal/reflectlite.rtype")).map (·.2) = some 85 := by kernel_rfl
theorem etRow : ((List.range Tryd.prog.types.size).filter fun t => Tryd.prog.rowNamed t [101, 114, 114, 111, 114]) = [27] := by kernel_rfl
theorem etHandle : typeHandle Tryd.prog 27 = .pointer (some ⟨4, 27, none⟩) := by kernel_rfl

/-- what the list gives a walk: the variable's one cell -/
theorem errType_of {W : World} (h : handlesMet Tryd.prog [("errors.errorType", Rows.laid_errors_errorType)] W) : ErrTypeAt W := by
  obtain ⟨name, u, ty, e1, e2, e3, e4, e5⟩ := h _ (List.mem_singleton.2 rfl)
  have en : name = [101, 114, 114, 111, 114] := (Option.some.inj e1).symm
  subst en
  obtain rfl := Option.some.inj (etRtype.symm.trans e2)
  have hm : ty ∈ (List.range Tryd.prog.types.size).filter fun t => Tryd.prog.rowNamed t [101, 114, 114, 111, 114] := List.mem_filter.2 ⟨List.mem_range.2 e3, e4⟩
  rw [etRow] at hm
  obtain rfl := List.mem_singleton.1 hm
  rw [etHandle] at e5
  have := World.var?_cell etNamed e5 0
  simpa [ErrTypeAt] using this

/-- a start: the settled world, errorType's cell laid -/
noncomputable def handWorld (os : Os) : World :=
  let w0 := World.holding Tryd.prog os ⟨#[], #[], []⟩
  { w0 with heap := w0.heap.modify 0 fun
      | .cells _ t frozen => .cells #[.iface 85 (.agg #[.pointer (some ⟨4, 27, none⟩)])] t frozen
      | o => o }
/-- and the other listed variables -/
noncomputable def rowWorld (os : Os) (l : List (String × DataW Unit)) : World := (handWorld os).layVars Tryd.prog (l.filter fun x => x.2.handleName?.isNone)
theorem rowWorld_os (os : Os) (l : List (String × DataW Unit)) : (rowWorld os l).os = os := World.layVars_os _ _ _
theorem rowWorld_met (os : Os) (l : List (String × DataW Unit)) (args : Array Value)
    (hf : (handWorld os).layFits Tryd.prog (l.filter fun x => x.2.handleName?.isNone) [] = true)
    (hi : (handWorld os).layIfaces Tryd.prog (l.filter fun x => x.2.handleName?.isNone) (rowWorld os l) = true)
    (hh : (l.filter fun x => x.2.handleName?.isSome).all (handleAtB Tryd.prog ((rowWorld os l).forCall (fun _ _ => 0) ⟨#[], args, []⟩).memory) = true) :
    laidMetH Tryd.prog l ((rowWorld os l).forCall (fun _ _ => 0) ⟨#[], args, []⟩).memory := by
  refine laidMetH_of_parts ?_ hh
  generalize hl : (l.filter fun x => x.2.handleName?.isNone) = k at *
  have hw : rowWorld os l = (handWorld os).layVars Tryd.prog k := by unfold rowWorld; rw [hl]
  rw [hw] at hi ⊢
  have e1 : (k.filter fun x => (k.map (·.1)).contains x.1) = k := List.filter_eq_self.2 fun x hx => List.contains_iff_mem.2 (List.mem_map.2 ⟨x, hx, rfl⟩)
  have e2 : (k.filter fun x => !(k.map (·.1)).contains x.1) = [] := List.filter_eq_nil_iff.2 fun x hx => by rw [List.contains_iff_mem.2 (List.mem_map.2 ⟨x, hx, rfl⟩)]; simp
  have h : laidMet Tryd.prog k ((handWorld os).layVars Tryd.prog k) := laidMet_layVars (w0 := handWorld os) (k.map (·.1)) [] (by rw [e1]) (by rw [e1]; exact hf) (by rw [e1]; exact hi) (by rw [e2]; exact LaidIn.none)
  exact h.of_heap (by simp [World.memory, World.forCall, Input.heap])
end Go.Proofs.YtlcomkhegppfgaaDoor
