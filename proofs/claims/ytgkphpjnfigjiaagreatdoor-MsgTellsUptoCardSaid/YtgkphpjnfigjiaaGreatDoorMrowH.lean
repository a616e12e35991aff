/-
  What the rows' proofs of the messages share: what the listed package-level variables give a walk, and what a world's shape gives.
  For rows that list errors.errorType (the library's handle of the type error): what the list gives, and a start that meets it.
-/
import Derived.Test.YtgkphpjnfigjiaaGreatDoorCards
import Derived.Test.YtgkphpjnfigjiaaGreatDoorTie
import Derived.Test.YtgkphpjnfigjiaaGreatDoorKey
import Derived.Test.YtgkphpjnfigjiaaGreatDoorLexQ
import Derived.Test.YtgkphpjnfigjiaaGreatDoorErr
import Derived.LaidHandle
import Derived.ProofKit
import Derived.OpenShut
import Derived.SliceStrings
import Derived.Deep.DeepHandedRow
import Derived.Deep.DeepWitnessRowRef
import Derived.LaidMore
import Derived.Lay
import Derived.MakeChecks
import Derived.Lib.LaidU8
import Derived.ReadAgain
import Derived.ChangeSame
namespace Go.Proofs.YtgkphpjnfigjiaaGreatDoor
open Go.ChangeShapes Go.WideShapes Go.ChangeAt Go.RowKit Ms

theorem own : ownKnob Tryz.prog.godebug = none := by kernel_rfl
/-- what the world's shape gives: MaxLen holds a number -/
theorem maxAt_of {W : World} (h : W.ShapedOpen Tryz.prog) : MaxAt W :=
  Go.Proofs.cell_of_shapedOpen_int (zero := #[.int .i64 0]) (t := 3) h (of_decide_eq_true (by kernel_rfl)) (by kernel_rfl) rfl (by kernel_rfl) (by kernel_rfl) Tryz.underlying3

/-- what a list says of a plain variable on it -/
theorem varH_of {l : List (String × DataW Unit)} {W : World} (hL : laidMetH Tryz.prog l W) {n : String} {d : DataW Unit} (hm : (n, d) ∈ l) (hp : d.handleName?.isNone = true) : Lib.VarReads Tryz.prog W n d := by
  unfold laidMetH at hL
  split at hL
  · exact Lib.laidMet.reads hL hm
  · exact Lib.laidMet.reads hL.1 (List.mem_filter.2 ⟨hm, hp⟩)
/-- a listed table of integers, wherever it stands on the list -/
theorem tab_of {W : World} {name : String} {k : IntKind} {zs : List Int} {g : Nat} {t e : TypeId} {n : Nat}
    (hg : Tryz.prog.globalNamed name = some g) (hty : (Tryz.prog.globals[g]?).map (·.type) = some t) (ht : Tryz.prog.underlying t = some (.array n e)) (he : Tryz.prog.underlying e = some (.int k)) (hce : Tryz.prog.cellsOf e = 1) (hct : Tryz.prog.cellsOf t = n)
    (h : Lib.VarReads Tryz.prog W name (Lib.tabData k zs)) : Lib.TabIs Tryz.prog W name k zs := by
  obtain ⟨g', t', cs, fuel, p, hg', ht', hvar, hd⟩ := h
  obtain rfl := Option.some.inj (hg.symm.trans hg')
  obtain rfl := Option.some.inj (hty.symm.trans ht')
  unfold Lib.TabIs
  rw [hvar, ← Lib.cells_of_tab ht he hce hct hd]
theorem pow_of {W : World} (h : Lib.VarReads Tryz.prog W "internal/strconv.uint64pow10" Rows.laid_internal_strconv_uint64pow10) : Pow10At W :=
  tab_of (t := 258) (e := 224) (n := 20) pow_named (by kernel_rfl) (by kernel_rfl) (by kernel_rfl) (by kernel_rfl) (by kernel_rfl) h
/-- a variable of type error that reads as an error holds an interface value -/
theorem if_of {W : World} {name n : String} {d : DataW Unit} {g : Nat} (hg : Tryz.prog.globalNamed name = some g) (hty : (Tryz.prog.globals[g]?).map (·.type) = some 25) (h : Lib.VarReads Tryz.prog W name (.iface n d)) : IfAt W g := by
  obtain ⟨g', t', cs, fuel, p, hg', ht', hvar, hd⟩ := h
  obtain rfl := Option.some.inj (hg.symm.trans hg')
  obtain rfl := Option.some.inj (hty.symm.trans ht')
  have hc := World.var?_cell hg hvar 0
  obtain ⟨_, u, v, hcs, _⟩ := iface_of_trod Tryz.underlying25 hd
  exact ⟨.iface u v, by rw [hc, ← Array.getElem?_toList, hcs]; rfl, .inr ⟨u, v, rfl⟩⟩
theorem kindsNamed : Tryz.prog.globalNamed "linguister/msg.kinds" = some 1 := by kernel_rfl
theorem strs_inj : ∀ (a : List ByteArray) (b : List (List UInt8)), (strs a : List (DataW Unit)) = b.map (fun l => .lit (.string l)) → a = b.map fun l => ⟨l.toArray⟩
  | [], [], _ => rfl
  | [], _ :: _, h => by cases h
  | _ :: _, [], h => by cases h
  | x :: a, y :: b, h => by
    have h1 : (DataW.lit (.string x.data.toList) : DataW Unit) :: strs a = .lit (.string y) :: b.map (fun l => .lit (.string l)) := h
    have h2 := (List.cons.inj h1).1
    have h3 : x.data.toList = y := by injection h2 with t; injection t
    rw [List.map_cons, strs_inj a b (List.cons.inj h1).2, ← h3, strOf_ext]
theorem kinds_of {W : World} (h : Lib.VarReads Tryz.prog W "linguister/msg.kinds" Rows.laid_linguister_msg_kinds) :
    ∃ b o c, W.cell? ⟨1, 0, none⟩ = some (.slice (some ⟨b, o, none⟩) 6 c) ∧ 6 ≤ c ∧ ∀ j, j < 6 → W.cell? ⟨b, o + j, none⟩ = some (.string (kindsB.getD j ByteArray.empty)) := by
  obtain ⟨g', t', cs, fuel, p, hg', ht', hvar, hd⟩ := h
  obtain rfl := Option.some.inj (kindsNamed.symm.trans hg')
  obtain rfl : 93 = t' := Option.some.inj ((show (Tryz.prog.globals[1]?).map (·.type) = some 93 by kernel_rfl).symm.trans ht')
  have hv := World.var?_cell kindsNamed hvar 0
  rcases open_strings Tryz.underlying93 Tryz.underlying9 (by kernel_rfl) hd with ⟨_, h2⟩ | ⟨a, len, cap, ss, hcs, _, hl, _, hm, hx, hi, _⟩
  · cases h2
  · have hx1 := DataW.slice.inj (congrArg Prod.fst hx)
    have e1 : ss.take len = kindsB := strs_inj _ kindsL hx1.1.symm
    have hl6 : (ss.take len).length = 6 := by rw [e1]; rfl
    rw [if_pos rfl] at hm
    rw [List.length_take] at hl6
    have hlen : len = 6 := by omega
    subst hlen
    have hcell : ∀ j, j < 6 → W.cell? (a.add j) = some (.string (kindsB.getD j ByteArray.empty)) := fun j hj => by
      rw [hi j (by omega), ← e1]
      congr 2
      simp [List.getD, hj]
    obtain ⟨ab, ao, asp⟩ := a
    have hsp : asp = none := Go.Proofs.cell_spot (hcell 0 (by omega))
    subst hsp
    refine ⟨ab, ao, cap, ?_, hl, fun j hj => by have h := hcell j hj; rw [show (⟨ab, ao, none⟩ : Addr).add j = ⟨ab, ao + j, none⟩ by unfold Addr.add; split <;> simp_all] at h; exact h⟩
    rw [hv, ← Array.getElem?_toList, hcs]; rfl
theorem synNamed : Tryz.prog.globalNamed "strconv.ErrSyntax" = some 9 := by kernel_rfl
theorem ranNamed : Tryz.prog.globalNamed "strconv.ErrRange" = some 10 := by kernel_rfl
theorem mw_of {l : List (String × DataW Unit)} {W : World} (hL : laidMetH Tryz.prog l W) (h1 : ("internal/strconv.uint64pow10", Rows.laid_internal_strconv_uint64pow10) ∈ l) (h2 : ("strconv.ErrSyntax", Rows.laid_strconv_ErrSyntax) ∈ l) (h3 : ("strconv.ErrRange", Rows.laid_strconv_ErrRange) ∈ l) (h4 : ("linguister/msg.kinds", Rows.laid_linguister_msg_kinds) ∈ l) : MW W :=
  ⟨pow_of (varH_of hL h1 (by kernel_rfl)), if_of synNamed (by kernel_rfl) (varH_of hL h2 (by kernel_rfl)), if_of ranNamed (by kernel_rfl) (varH_of hL h3 (by kernel_rfl)), kinds_of (varH_of hL h4 (by kernel_rfl))⟩
end Go.Proofs.YtgkphpjnfigjiaaGreatDoor
namespace Go.Proofs.YtgkphpjnfigjiaaGreatDoor
open Go.ChangeShapes Go.WideShapes Go.ChangeAt Go.RowKit

theorem etNamed : Tryz.prog.globalNamed "errors.errorType" = some 0 := by kernel_rfl
theorem etRtype : (Tryz.prog.cutTypes.find? (·.1 == "internal/reflectlite.rtype")).map (·.2) = some 159 := by kernel_rfl
theorem etRow : ((List.range Tryz.prog.types.size).filter fun t => Tryz.prog.rowNamed t [101, 114, 114, 111, 114]) = [25] := by kernel_rfl
theorem etHandle : typeHandle Tryz.prog 25 = .pointer (some ⟨13, 25, none⟩) := by kernel_rfl

/-- what the list gives a walk: the variable's one cell -/
theorem errType_of {W : World} (h : handlesMet Tryz.prog [("errors.errorType", Rows.laid_errors_errorType)] W) : ErrTypeAt W := by
  obtain ⟨name, u, ty, e1, e2, e3, e4, e5⟩ := h _ (List.mem_singleton.2 rfl)
  have en : name = [101, 114, 114, 111, 114] := (Option.some.inj e1).symm
  subst en
  obtain rfl := Option.some.inj (etRtype.symm.trans e2)
  have hm : ty ∈ (List.range Tryz.prog.types.size).filter fun t => Tryz.prog.rowNamed t [101, 114, 114, 111, 114] := List.mem_filter.2 ⟨List.mem_range.2 e3, e4⟩
  rw [etRow] at hm
  obtain rfl := List.mem_singleton.1 hm
  rw [etHandle] at e5
  have := World.var?_cell etNamed e5 0
  simpa [ErrTypeAt] using this

/-- a start: the settled world, errorType's cell laid -/
noncomputable def handWorld (os : Os) : World :=
  let w0 := World.holding Tryz.prog os ⟨#[], #[], []⟩
  { w0 with heap := w0.heap.modify 0 fun
      | .cells _ t frozen => .cells #[.iface 159 (.agg #[.pointer (some ⟨13, 25, none⟩)])] t frozen
      | o => o }
/-- and the other listed variables -/
noncomputable def rowWorld (os : Os) (l : List (String × DataW Unit)) : World := (handWorld os).layVars Tryz.prog (l.filter fun x => x.2.handleName?.isNone)
theorem rowWorld_os (os : Os) (l : List (String × DataW Unit)) : (rowWorld os l).os = os := World.layVars_os _ _ _
theorem rowWorld_met (os : Os) (l : List (String × DataW Unit)) (args : Array Value)
    (hf : (handWorld os).layFits Tryz.prog (l.filter fun x => x.2.handleName?.isNone) [] = true)
    (hi : (handWorld os).layIfaces Tryz.prog (l.filter fun x => x.2.handleName?.isNone) (rowWorld os l) = true)
    (hh : (l.filter fun x => x.2.handleName?.isSome).all (handleAtB Tryz.prog ((rowWorld os l).forCall (fun _ _ => 0) ⟨#[], args, []⟩).memory) = true) :
    laidMetH Tryz.prog l ((rowWorld os l).forCall (fun _ _ => 0) ⟨#[], args, []⟩).memory := by
  refine laidMetH_of_parts ?_ hh
  generalize hl : (l.filter fun x => x.2.handleName?.isNone) = k at *
  have hw : rowWorld os l = (handWorld os).layVars Tryz.prog k := by unfold rowWorld; rw [hl]
  rw [hw] at hi ⊢
  have e1 : (k.filter fun x => (k.map (·.1)).contains x.1) = k := List.filter_eq_self.2 fun x hx => List.contains_iff_mem.2 (List.mem_map.2 ⟨x, hx, rfl⟩)
  have e2 : (k.filter fun x => !(k.map (·.1)).contains x.1) = [] := List.filter_eq_nil_iff.2 fun x hx => by rw [List.contains_iff_mem.2 (List.mem_map.2 ⟨x, hx, rfl⟩)]; simp
  have h : laidMet Tryz.prog k ((handWorld os).layVars Tryz.prog k) := laidMet_layVars (w0 := handWorld os) (k.map (·.1)) [] (by rw [e1]) (by rw [e1]; exact hf) (by rw [e1]; exact hi) (by rw [e2]; exact LaidIn.none)
  exact h.of_heap (by simp [World.memory, World.forCall, Input.heap])
end Go.Proofs.YtgkphpjnfigjiaaGreatDoor
