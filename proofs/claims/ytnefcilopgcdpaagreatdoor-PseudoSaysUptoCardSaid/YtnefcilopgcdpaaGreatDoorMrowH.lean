/-
  What the rows' proofs of the messages share: what the listed package-level variables give a walk, and what a world's shape gives.
  For rows that list errors.errorType (the library's handle of the type error): what the list gives, and a start that meets it.
  A message among a row's arguments: what reads as a datum reads as a tree, no greater than the datum's bulk.
-/
import Derived.Test.YtnefcilopgcdpaaGreatDoorCards
import Derived.Test.YtnefcilopgcdpaaGreatDoorTie
import Derived.Test.YtnefcilopgcdpaaGreatDoorKey
import Derived.Test.YtnefcilopgcdpaaGreatDoorLex
import Derived.Test.YtnefcilopgcdpaaGreatDoorErr
import Derived.LaidHandle
import Derived.ProofKit
import Derived.OpenShut
import Derived.SliceStrings
import Derived.Deep.DeepHandedRow
import Derived.Deep.DeepWitnessRowRef
import Derived.LaidMore
import Derived.Lay
import Derived.MakeChecks
import Derived.Lib.LaidU8
import Derived.ReadAgain
import Derived.ChangeSame
import Derived.Test.YtnefcilopgcdpaaGreatDoorBase
import Derived.Carry
namespace Go.Proofs.YtnefcilopgcdpaaGreatDoor
open Go.ChangeShapes Go.WideShapes Go.ChangeAt Go.RowKit Ms

theorem own : ownKnob Tryz.prog.godebug = none := by kernel_rfl
/-- what the world's shape gives: MaxLen holds a number -/
theorem maxAt_of {W : World} (h : W.ShapedOpen Tryz.prog) : MaxAt W :=
  Go.Proofs.cell_of_shapedOpen_int (zero := #[.int .i64 0]) (t := 3) h (of_decide_eq_true (by kernel_rfl)) (by kernel_rfl) rfl (by kernel_rfl) (by kernel_rfl) Tryz.underlying3

/-- what a list says of a plain variable on it -/
theorem varH_of {l : List (String × DataW Unit)} {W : World} (hL : laidMetH Tryz.prog l W) {n : String} {d : DataW Unit} (hm : (n, d) ∈ l) (hp : d.handleName?.isNone = true) : Lib.VarReads Tryz.prog W n d := by
  unfold laidMetH at hL
  split at hL
  · exact Lib.laidMet.reads hL hm
  · exact Lib.laidMet.reads hL.1 (List.mem_filter.2 ⟨hm, hp⟩)
/-- a listed table of integers, wherever it stands on the list -/
theorem tab_of {W : World} {name : String} {k : IntKind} {zs : List Int} {g : Nat} {t e : TypeId} {n : Nat}
    (hg : Tryz.prog.globalNamed name = some g) (hty : (Tryz.prog.globals[g]?).map (·.type) = some t) (ht : Tryz.prog.underlying t = some (.array n e)) (he : Tryz.prog.underlying e = some (.int k)) (hce : Tryz.prog.cellsOf e = 1) (hct : Tryz.prog.cellsOf t = n)
    (h : Lib.VarReads Tryz.prog W name (Lib.tabData k zs)) : Lib.TabIs Tryz.prog W name k zs := by
  obtain ⟨g', t', cs, fuel, p, hg', ht', hvar, hd⟩ := h
  obtain rfl := Option.some.inj (hg.symm.trans hg')
  obtain rfl := Option.some.inj (hty.symm.trans ht')
  unfold Lib.TabIs
  rw [hvar, ← Lib.cells_of_tab ht he hce hct hd]
theorem pow_of {W : World} (h : Lib.VarReads Tryz.prog W "internal/strconv.uint64pow10" Rows.laid_internal_strconv_uint64pow10) : Pow10At W :=
  tab_of (t := 249) (e := 212) (n := 20) pow_named (by kernel_rfl) (by kernel_rfl) (by kernel_rfl) (by kernel_rfl) (by kernel_rfl) h
/-- a variable of type error that reads as an error holds an interface value -/
theorem if_of {W : World} {name n : String} {d : DataW Unit} {g : Nat} (hg : Tryz.prog.globalNamed name = some g) (hty : (Tryz.prog.globals[g]?).map (·.type) = some 26) (h : Lib.VarReads Tryz.prog W name (.iface n d)) : IfAt W g := by
  obtain ⟨g', t', cs, fuel, p, hg', ht', hvar, hd⟩ := h
  obtain rfl := Option.some.inj (hg.symm.trans hg')
  obtain rfl := Option.some.inj (hty.symm.trans ht')
  have hc := World.var?_cell hg hvar 0
  obtain ⟨_, u, v, hcs, _⟩ := iface_of_trod Tryz.underlying26 hd
  exact ⟨.iface u v, by rw [hc, ← Array.getElem?_toList, hcs]; rfl, .inr ⟨u, v, rfl⟩⟩
theorem kindsNamed : Tryz.prog.globalNamed "linguister/msg.kinds" = some 2 := by kernel_rfl
theorem strs_inj : ∀ (a : List ByteArray) (b : List (List UInt8)), (strs a : List (DataW Unit)) = b.map (fun l => .lit (.string l)) → a = b.map fun l => ⟨l.toArray⟩
  | [], [], _ => rfl
  | [], _ :: _, h => by cases h
  | _ :: _, [], h => by cases h
  | x :: a, y :: b, h => by
    have h1 : (DataW.lit (.string x.data.toList) : DataW Unit) :: strs a = .lit (.string y) :: b.map (fun l => .lit (.string l)) := h
    have h2 := (List.cons.inj h1).1
    have h3 : x.data.toList = y := by injection h2 with t; injection t
    rw [List.map_cons, strs_inj a b (List.cons.inj h1).2, ← h3, strOf_ext]
theorem kinds_of {W : World} (h : Lib.VarReads Tryz.prog W "linguister/msg.kinds" Rows.laid_linguister_msg_kinds) :
    ∃ b o c, W.cell? ⟨2, 0, none⟩ = some (.slice (some ⟨b, o, none⟩) 6 c) ∧ 6 ≤ c ∧ ∀ j, j < 6 → W.cell? ⟨b, o + j, none⟩ = some (.string (kindsB.getD j ByteArray.empty)) := by
  obtain ⟨g', t', cs, fuel, p, hg', ht', hvar, hd⟩ := h
  obtain rfl := Option.some.inj (kindsNamed.symm.trans hg')
  obtain rfl : 116 = t' := Option.some.inj ((show (Tryz.prog.globals[2]?).map (·.type) = some 116 by kernel_rfl).symm.trans ht')
  have hv := World.var?_cell kindsNamed hvar 0
  rcases open_strings Tryz.underlying116 Tryz.underlying9 (by kernel_rfl) hd with ⟨_, h2⟩ | ⟨a, len, cap, ss, hcs, _, hl, _, hm, hx, hi, _⟩
  · cases h2
  · have hx1 := DataW.slice.inj (congrArg Prod.fst hx)
    have e1 : ss.take len = kindsB := strs_inj _ kindsL hx1.1.symm
    have hl6 : (ss.take len).length = 6 := by rw [e1]; rfl
    rw [if_pos rfl] at hm
    rw [List.length_take] at hl6
    have hlen : len = 6 := by omega
    subst hlen
    have hcell : ∀ j, j < 6 → W.cell? (a.add j) = some (.string (kindsB.getD j ByteArray.empty)) := fun j hj => by
      rw [hi j (by omega), ← e1]
      congr 2
      simp [List.getD, hj]
    obtain ⟨ab, ao, asp⟩ := a
    have hsp : asp = none := Go.Proofs.cell_spot (hcell 0 (by omega))
    subst hsp
    refine ⟨ab, ao, cap, ?_, hl, fun j hj => by have h := hcell j hj; rw [show (⟨ab, ao, none⟩ : Addr).add j = ⟨ab, ao + j, none⟩ by unfold Addr.add; split <;> simp_all] at h; exact h⟩
    rw [hv, ← Array.getElem?_toList, hcs]; rfl
theorem synNamed : Tryz.prog.globalNamed "strconv.ErrSyntax" = some 9 := by kernel_rfl
theorem ranNamed : Tryz.prog.globalNamed "strconv.ErrRange" = some 10 := by kernel_rfl
theorem mw_of {l : List (String × DataW Unit)} {W : World} (hL : laidMetH Tryz.prog l W) (h1 : ("internal/strconv.uint64pow10", Rows.laid_internal_strconv_uint64pow10) ∈ l) (h2 : ("strconv.ErrSyntax", Rows.laid_strconv_ErrSyntax) ∈ l) (h3 : ("strconv.ErrRange", Rows.laid_strconv_ErrRange) ∈ l) (h4 : ("linguister/msg.kinds", Rows.laid_linguister_msg_kinds) ∈ l) : MW W :=
  ⟨pow_of (varH_of hL h1 (by kernel_rfl)), if_of synNamed (by kernel_rfl) (varH_of hL h2 (by kernel_rfl)), if_of ranNamed (by kernel_rfl) (varH_of hL h3 (by kernel_rfl)), kinds_of (varH_of hL h4 (by kernel_rfl))⟩
end Go.Proofs.YtnefcilopgcdpaaGreatDoor
namespace Go.Proofs.YtnefcilopgcdpaaGreatDoor
open Go.ChangeShapes Go.WideShapes Go.ChangeAt Go.RowKit

theorem etNamed : Tryz.prog.globalNamed "errors.errorType" = some 0 := by kernel_rfl
theorem etRtype : (Tryz.prog.cutTypes.find? (·.1 == "internal/reflectlite.rtype")).map (·.2) = some 137 := by kernel_rfl
theorem etRow : ((List.range Tryz.prog.types.size).filter fun t => Tryz.prog.rowNamed t [101, 114, 114, 111, 114]) = [26] := by kernel_rfl
theorem etHandle : typeHandle Tryz.prog 26 = .pointer (some ⟨13, 26, none⟩) := by kernel_rfl

/-- what the list gives a walk: the variable's one cell -/
theorem errType_of {W : World} (h : handlesMet Tryz.prog [("errors.errorType", Rows.laid_errors_errorType)] W) : ErrTypeAt W := by
  obtain ⟨name, u, ty, e1, e2, e3, e4, e5⟩ := h _ (List.mem_singleton.2 rfl)
  have en : name = [101, 114, 114, 111, 114] := (Option.some.inj e1).symm
  subst en
  obtain rfl := Option.some.inj (etRtype.symm.trans e2)
  have hm : ty ∈ (List.range Tryz.prog.types.size).filter fun t => Tryz.prog.rowNamed t [101, 114, 114, 111, 114] := List.mem_filter.2 ⟨List.mem_range.2 e3, e4⟩
  rw [etRow] at hm
  obtain rfl := List.mem_singleton.1 hm
  rw [etHandle] at e5
  have := World.var?_cell etNamed e5 0
  simpa [ErrTypeAt] using this

/-- a start: the settled world, errorType's cell laid -/
noncomputable def handWorld (os : Os) : World :=
  let w0 := World.holding Tryz.prog os ⟨#[], #[], []⟩
  { w0 with heap := w0.heap.modify 0 fun
      | .cells _ t frozen => .cells #[.iface 137 (.agg #[.pointer (some ⟨13, 26, none⟩)])] t frozen
      | o => o }
/-- and the other listed variables -/
noncomputable def rowWorld (os : Os) (l : List (String × DataW Unit)) : World := (handWorld os).layVars Tryz.prog (l.filter fun x => x.2.handleName?.isNone)
theorem rowWorld_os (os : Os) (l : List (String × DataW Unit)) : (rowWorld os l).os = os := World.layVars_os _ _ _
theorem rowWorld_met (os : Os) (l : List (String × DataW Unit)) (args : Array Value)
    (hf : (handWorld os).layFits Tryz.prog (l.filter fun x => x.2.handleName?.isNone) [] = true)
    (hi : (handWorld os).layIfaces Tryz.prog (l.filter fun x => x.2.handleName?.isNone) (rowWorld os l) = true)
    (hh : (l.filter fun x => x.2.handleName?.isSome).all (handleAtB Tryz.prog ((rowWorld os l).forCall (fun _ _ => 0) ⟨#[], args, []⟩).memory) = true) :
    laidMetH Tryz.prog l ((rowWorld os l).forCall (fun _ _ => 0) ⟨#[], args, []⟩).memory := by
  refine laidMetH_of_parts ?_ hh
  generalize hl : (l.filter fun x => x.2.handleName?.isNone) = k at *
  have hw : rowWorld os l = (handWorld os).layVars Tryz.prog k := by unfold rowWorld; rw [hl]
  rw [hw] at hi ⊢
  have e1 : (k.filter fun x => (k.map (·.1)).contains x.1) = k := List.filter_eq_self.2 fun x hx => List.contains_iff_mem.2 (List.mem_map.2 ⟨x, hx, rfl⟩)
  have e2 : (k.filter fun x => !(k.map (·.1)).contains x.1) = [] := List.filter_eq_nil_iff.2 fun x hx => by rw [List.contains_iff_mem.2 (List.mem_map.2 ⟨x, hx, rfl⟩)]; simp
  have h : laidMet Tryz.prog k ((handWorld os).layVars Tryz.prog k) := laidMet_layVars (w0 := handWorld os) (k.map (·.1)) [] (by rw [e1]) (by rw [e1]; exact hf) (by rw [e1]; exact hi) (by rw [e2]; exact LaidIn.none)
  exact h.of_heap (by simp [World.memory, World.forCall, Input.heap])
end Go.Proofs.YtnefcilopgcdpaaGreatDoor
namespace Go.Proofs.YtnefcilopgcdpaaGreatDoor
open Go.ChangeShapes Go.WideShapes Go.ChangeAt Go.RowKit Ms

/-- a message at the top: a slice at a plain address -/
def SV0 (W : World) (v : Value) (t : T) : Prop := (v = .slice none 0 0 ∧ t = .nil) ∨ ∃ b o n c, v = .slice (some ⟨b, o, none⟩) n c ∧ n ≤ c ∧ Rd W t b o n
theorem SV0.sv {W : World} {v : Value} {t : T} (h : SV0 W v t) : SV W v t := h.elim (fun h => .inl ⟨⟨_, h.1⟩, h.2⟩) .inr

section
variable {H : Type} {enc : TypeId × Value → H} {w : World} {base : Nat} {spare : Nat → Bool} {held : Bool}
theorem cells_at {a : Addr} {n : Nat} {cs : List Value} (h : w.cells? base a n = some cs) : base ≤ a.block ∧ cs.length = n ∧ ∀ i, i < n → w.cell? (a.add i) = cs[i]? := World.cells?_some h
set_option maxRecDepth 100000 in
/-- four cells that read as a node -/
theorem node_of_trod {fuel : Nat} {cs : List Value} {x : DataW H × List MemPlace} (h : DataW.trod enc Tryz.prog w base spare held fuel 60 cs = some x) :
    ∃ (k f : Int) (s : List UInt8) (v : Value) (y : DataW H × List MemPlace) (n : Nat), fuel = n + 1 ∧ cs = [.int .i64 k, .string ⟨s.toArray⟩, .int .i64 f, v] ∧ DataW.trod enc Tryz.prog w base spare held n 58 [v] = some y ∧ Rows.uptoBulk x.1 = 4 + s.length + Rows.uptoBulk y.1 := by
  obtain ⟨xs, n, hfu, hx, hl, hlen, hf⟩ := DataW.trod_struct Tryz.underlying60 h
  have hl4 : cs.length = 4 := hl.trans (by kernel_rfl)
  match xs, hlen, cs, hl4 with
  | [y0, y1, y2, y3], _, [c0, c1, c2, c3], _ =>
    have h0 : DataW.trod enc Tryz.prog w base spare held n 3 [c0] = some y0 := hf 0 _ rfl
    have h1 : DataW.trod enc Tryz.prog w base spare held n 9 [c1] = some y1 := hf 1 _ rfl
    have h2 : DataW.trod enc Tryz.prog w base spare held n 3 [c2] = some y2 := hf 2 _ rfl
    have h3 : DataW.trod enc Tryz.prog w base spare held n 58 [c3] = some y3 := hf 3 _ rfl
    obtain ⟨k, e0, e0', _⟩ := DataW.trod_int Tryz.underlying3 h0
    obtain ⟨s, e1, e1', _⟩ := DataW.trod_string Tryz.underlying9 h1
    obtain ⟨f, e2, e2', _⟩ := DataW.trod_int Tryz.underlying3 h2
    cases e0; cases e1; cases e2
    subst e0' e1' e2' hx
    refine ⟨k, f, s.data.toList, c3, y3, n, hfu, by rw [strOf_ext], h3, ?_⟩
    simp only [List.map_cons, List.map_nil, Rows.uptoBulk, Rows.uptoBulkAll]; omega
set_option maxRecDepth 100000 in
/-- two cells that read as a case -/
theorem case_of_trod {fuel : Nat} {cs : List Value} {x : DataW H × List MemPlace} (h : DataW.trod enc Tryz.prog w base spare held fuel 62 cs = some x) :
    ∃ (s : List UInt8) (v : Value) (y : DataW H × List MemPlace) (n : Nat), fuel = n + 1 ∧ cs = [.string ⟨s.toArray⟩, v] ∧ DataW.trod enc Tryz.prog w base spare held n 22 [v] = some y ∧ Rows.uptoBulk x.1 = 2 + s.length + Rows.uptoBulk y.1 := by
  obtain ⟨xs, n, hfu, hx, hl, hlen, hf⟩ := DataW.trod_struct Tryz.underlying62 h
  have hl4 : cs.length = 2 := hl.trans (by kernel_rfl)
  match xs, hlen, cs, hl4 with
  | [y0, y1], _, [c0, c1], _ =>
    have h0 : DataW.trod enc Tryz.prog w base spare held n 9 [c0] = some y0 := hf 0 _ rfl
    have h1 : DataW.trod enc Tryz.prog w base spare held n 22 [c1] = some y1 := hf 1 _ rfl
    obtain ⟨s, e1, e1', _⟩ := DataW.trod_string Tryz.underlying9 h0
    cases e1
    subst e1' hx
    refine ⟨s.data.toList, c1, y1, n, hfu, by rw [strOf_ext], h1, ?_⟩
    simp only [List.map_cons, List.map_nil, Rows.uptoBulk, Rows.uptoBulkAll]; omega

theorem bulkAll_append (a b : List (DataW H)) : Rows.uptoBulkAll (a ++ b) = Rows.uptoBulkAll a + Rows.uptoBulkAll b := by
  induction a with
  | nil => simp [Rows.uptoBulkAll]
  | cons x a ih => simp only [List.cons_append, Rows.uptoBulkAll, ih]; omega
def MsgReads (n : Nat) : Prop := ∀ (t : Bool) (v : Value) (y : DataW H × List MemPlace), DataW.trod enc Tryz.prog w base spare held n (if t = true then 22 else 58) [v] = some y →
  ∃ T', SV w v T' ∧ (if t = true then isN T' else isN.isC T') = true ∧ wt T' ≤ Rows.uptoBulk y.1

theorem addr_add (b o j : Nat) : (⟨b, o, none⟩ : Addr).add j = ⟨b, o + j, none⟩ := by unfold Addr.add; split <;> simp_all
theorem elems_none : Rows.uptoBulkAll ([] : List (DataW H)) = 0 := rfl
/-- a chain of nodes, from one of them on -/
theorem nodes_from {n : Nat} (ih : ∀ m, m < n → MsgReads (enc := enc) (w := w) (base := base) (spare := spare) (held := held) m) {b o len : Nat} {es : List (DataW H × List MemPlace)} {m : Nat} (hm : m < n + 1)
    (hel : es.length = len) (he : ∀ i, i < len → (w.cells? base ((⟨b, o, none⟩ : Addr).add (i * 4)) 4).bind (DataW.trod enc Tryz.prog w base spare held m 60) = es[i]?) :
    ∀ (k i : Nat), i + k = len → ∃ T', Rd w T' b (o + i * 4) k ∧ isN T' = true ∧ wt T' ≤ 1 + Rows.uptoBulkAll ((es.drop i).map (·.1))
  | 0, i, _ => ⟨.nil, rfl, rfl, by simp only [wt]; omega⟩
  | k + 1, i, hik => by
    obtain ⟨T', h1, h2, h3⟩ := nodes_from ih hm hel he k (i + 1) (by omega)
    have hi : i < len := by omega
    have hx : es[i]? = some (es[i]'(by omega)) := List.getElem?_eq_getElem (by omega)
    have h := he i hi
    rw [hx] at h
    obtain ⟨cs, hc, ht⟩ := Option.bind_eq_some_iff.1 h
    obtain ⟨_, hcl, hcc⟩ := cells_at hc
    obtain ⟨kk, f, s, v, y, m', e1, e2, e3, e4⟩ := node_of_trod ht
    subst e2
    obtain ⟨cs', g1, g2, g3⟩ := ih m' (by omega) false v y e3
    have c : ∀ j, j < 4 → w.cell? ⟨b, o + i * 4 + j, none⟩ = [Value.int .i64 kk, .string ⟨s.toArray⟩, .int .i64 f, v][j]? := fun j hj => by
      have := hcc j hj
      rw [addr_add, addr_add] at this
      exact this
    refine ⟨.node kk s f cs' T', ⟨v, k, rfl, c 0 (by omega), c 1 (by omega), c 2 (by omega), c 3 (by omega), g1, ?_⟩, ?_, ?_⟩
    · rw [show o + i * 4 + 4 = o + (i + 1) * 4 by omega]; exact h1
    · show (isN.isC cs' && isN T') = true
      rw [show isN.isC cs' = true from g2, h2]; rfl
    · rw [show es.drop i = es[i]'(by omega) :: es.drop (i + 1) from List.drop_eq_getElem_cons (by omega)]
      simp only [List.map_cons, Rows.uptoBulkAll, e4, wt] at h3 ⊢
      omega
/-- a chain of cases, from one of them on -/
theorem cases_from {n : Nat} (ih : ∀ m, m < n → MsgReads (enc := enc) (w := w) (base := base) (spare := spare) (held := held) m) {b o len : Nat} {es : List (DataW H × List MemPlace)} {m : Nat} (hm : m < n + 1)
    (hel : es.length = len) (he : ∀ i, i < len → (w.cells? base ((⟨b, o, none⟩ : Addr).add (i * 2)) 2).bind (DataW.trod enc Tryz.prog w base spare held m 62) = es[i]?) :
    ∀ (k i : Nat), i + k = len → ∃ T', Rd w T' b (o + i * 2) k ∧ isN.isC T' = true ∧ wt T' ≤ 1 + Rows.uptoBulkAll ((es.drop i).map (·.1))
  | 0, i, _ => ⟨.nil, rfl, rfl, by simp only [wt]; omega⟩
  | k + 1, i, hik => by
    obtain ⟨T', h1, h2, h3⟩ := cases_from ih hm hel he k (i + 1) (by omega)
    have hi : i < len := by omega
    have hx : es[i]? = some (es[i]'(by omega)) := List.getElem?_eq_getElem (by omega)
    have h := he i hi
    rw [hx] at h
    obtain ⟨cs, hc, ht⟩ := Option.bind_eq_some_iff.1 h
    obtain ⟨_, hcl, hcc⟩ := cells_at hc
    obtain ⟨s, v, y, m', e1, e2, e3, e4⟩ := case_of_trod ht
    subst e2
    obtain ⟨cs', g1, g2, g3⟩ := ih m' (by omega) true v y e3
    have c : ∀ j, j < 2 → w.cell? ⟨b, o + i * 2 + j, none⟩ = [Value.string ⟨s.toArray⟩, v][j]? := fun j hj => by
      have := hcc j hj
      rw [addr_add, addr_add] at this
      exact this
    refine ⟨.case s cs' T', ⟨v, k, rfl, c 0 (by omega), c 1 (by omega), g1, ?_⟩, ?_, ?_⟩
    · rw [show o + i * 2 + 2 = o + (i + 1) * 2 by omega]; exact h1
    · show (isN cs' && isN.isC T') = true
      rw [show isN cs' = true from g2, h2]; rfl
    · rw [show es.drop i = es[i]'(by omega) :: es.drop (i + 1) from List.drop_eq_getElem_cons (by omega)]
      simp only [List.map_cons, Rows.uptoBulkAll, e4, wt] at h3 ⊢
      omega
/-- a slice of them that has room somewhere lies at a plain address -/
theorem spot_none {a : Addr} {c i : Nat} {cs : List Value} (hc : 0 < c) (hi : i = 0) (h : w.cells? base (a.add i) c = some cs) : a.spot = none := by
  subst hi
  obtain ⟨_, hl, he⟩ := cells_at h
  have h0 := he 0 hc
  have : cs[0]? = some (cs[0]'(by omega)) := List.getElem?_eq_getElem (by omega)
  rw [this] at h0
  obtain ⟨ab, ao, asp⟩ := a
  exact Go.Proofs.cell_spot (sp := asp) h0
set_option maxRecDepth 100000 in
theorem msg_reads (hs : ∀ b, spare b = true) (n : Nat) : MsgReads (enc := enc) (w := w) (base := base) (spare := spare) (held := held) n := by
  induction n using Nat.strongRecOn with
  | _ n ih =>
    intro t v y h
    cases t with
    | true =>
      rw [if_pos rfl] at h
      suffices hh : ∃ T', SV w v T' ∧ isN T' = true ∧ wt T' ≤ Rows.uptoBulk y.1 from hh
      rcases DataW.trod_slice Tryz.underlying22 h with ⟨e1, e2⟩ | ⟨a, len, cap, es, rest, m, e1, e2, e3, h1, h2, h3, h4, h5, h6, _⟩
      · cases e1; subst e2
        exact ⟨.nil, .inl ⟨⟨none, rfl⟩, rfl⟩, rfl, Nat.le_refl _⟩
      · cases e2; subst e3
        have hce : Tryz.prog.cellsOf 60 = 4 := by kernel_rfl
        rw [hce] at h5 h6
        obtain ⟨hrl, hre⟩ := h6 (hs _)
        by_cases hcap : cap = 0
        · subst hcap
          obtain rfl : len = 0 := by omega
          refine ⟨.nil, .inl ⟨⟨some a, rfl⟩, rfl⟩, rfl, ?_⟩
          simp only [wt, Rows.uptoBulk]; omega
        · have hsp : a.spot = none := by
            by_cases hlen : 0 < len
            · have hx : es[0]? = some (es[0]'(by omega)) := List.getElem?_eq_getElem (by omega)
              have h := h5 0 hlen
              rw [hx] at h
              obtain ⟨cs, hc, _⟩ := Option.bind_eq_some_iff.1 h
              exact spot_none (by omega) (by simp; try omega) hc
            · have hx : rest[0]? = some (rest[0]'(by omega)) := List.getElem?_eq_getElem (by omega)
              have h := hre 0 (by omega)
              rw [hx] at h
              obtain ⟨cs, hc, _⟩ := Option.bind_eq_some_iff.1 h
              exact spot_none (by omega) (by simp; try omega) hc
          obtain ⟨ab, ao, asp⟩ := a
          obtain rfl : asp = none := hsp
          obtain ⟨T', g1, g2, g3⟩ := nodes_from (n := m) (fun m' hm' => ih m' (by omega)) (Nat.lt_succ_self _) h4 h5 len 0 (by omega)
          refine ⟨T', .inr ⟨ab, ao, len, cap, rfl, h2, by simpa using g1⟩, g2, ?_⟩
          simp only [Rows.uptoBulk, List.drop_zero] at g3 ⊢
          omega
    | false =>
      rw [if_neg Bool.false_ne_true] at h
      suffices hh : ∃ T', SV w v T' ∧ isN.isC T' = true ∧ wt T' ≤ Rows.uptoBulk y.1 from hh
      rcases DataW.trod_slice Tryz.underlying58 h with ⟨e1, e2⟩ | ⟨a, len, cap, es, rest, m, e1, e2, e3, h1, h2, h3, h4, h5, h6, _⟩
      · cases e1; subst e2
        exact ⟨.nil, .inl ⟨⟨none, rfl⟩, rfl⟩, rfl, Nat.le_refl _⟩
      · cases e2; subst e3
        have hce : Tryz.prog.cellsOf 62 = 2 := by kernel_rfl
        rw [hce] at h5 h6
        obtain ⟨hrl, hre⟩ := h6 (hs _)
        by_cases hcap : cap = 0
        · subst hcap
          obtain rfl : len = 0 := by omega
          refine ⟨.nil, .inl ⟨⟨some a, rfl⟩, rfl⟩, rfl, ?_⟩
          simp only [wt, Rows.uptoBulk]; omega
        · have hsp : a.spot = none := by
            by_cases hlen : 0 < len
            · have hx : es[0]? = some (es[0]'(by omega)) := List.getElem?_eq_getElem (by omega)
              have h := h5 0 hlen
              rw [hx] at h
              obtain ⟨cs, hc, _⟩ := Option.bind_eq_some_iff.1 h
              exact spot_none (by omega) (by simp; try omega) hc
            · have hx : rest[0]? = some (rest[0]'(by omega)) := List.getElem?_eq_getElem (by omega)
              have h := hre 0 (by omega)
              rw [hx] at h
              obtain ⟨cs, hc, _⟩ := Option.bind_eq_some_iff.1 h
              exact spot_none (by omega) (by simp; try omega) hc
          obtain ⟨ab, ao, asp⟩ := a
          obtain rfl : asp = none := hsp
          obtain ⟨T', g1, g2, g3⟩ := cases_from (n := m) (fun m' hm' => ih m' (by omega)) (Nat.lt_succ_self _) h4 h5 len 0 (by omega)
          refine ⟨T', .inr ⟨ab, ao, len, cap, rfl, h2, by simpa using g1⟩, g2, ?_⟩
          simp only [Rows.uptoBulk, List.drop_zero] at g3 ⊢
          omega
end
set_option maxRecDepth 100000 in
/-- an argument that is a message -/
theorem open_msg {H : Type} {enc : TypeId × Value → H} {W : World} {base : Nat} {v : Value} {d : DataW H} {p : List MemPlace} (hv : Value.okWide Tryz.prog W .any base 22 v)
    (h : DataW.Trod enc Tryz.prog W 0 (fun _ => true) true 22 v d p) : ∃ t, SV0 W v t ∧ isN t = true ∧ wt t ≤ Rows.uptoBulk d := by
  obtain ⟨fuel, hf⟩ := h
  obtain ⟨a, len, cap, rfl⟩ := okWide_slice Tryz.underlying22 hv
  obtain ⟨t, h1, h2, h3⟩ := msg_reads (fun _ => rfl) fuel true _ _ hf
  refine ⟨t, ?_, h2, h3⟩
  rcases h1 with ⟨⟨a', e⟩, rfl⟩ | h1
  · cases e
    cases a with
    | none => exact .inl ⟨rfl, rfl⟩
    | some a =>
      have hsp : a.spot = none := by
        have := hv
        simp only [Value.okWide, Tryz.underlying22, Cell.okWide, Cell.ok] at this
        exact this.2.2.2.1
      obtain ⟨ab, ao, asp⟩ := a
      obtain rfl : asp = none := hsp
      exact .inr ⟨ab, ao, 0, 0, rfl, Nat.le_refl _, rfl⟩
  · exact .inr h1
end Go.Proofs.YtnefcilopgcdpaaGreatDoor
