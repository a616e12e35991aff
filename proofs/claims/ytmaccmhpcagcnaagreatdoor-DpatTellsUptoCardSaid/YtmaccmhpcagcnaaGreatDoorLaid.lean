/-
  What the rows' proofs of this seat share: a date among the arguments; what the listed package-level variables give a walk.
-/
import Derived.Test.YtmaccmhpcagcnaaGreatDoorCards
import Derived.Test.YtmaccmhpcagcnaaGreatDoorTie
import Derived.Test.YtmaccmhpcagcnaaGreatDoorFormat
import Derived.ProofKit
import Derived.OpenShut
import Derived.Deep.DeepHandedRow
import Derived.Deep.DeepWitnessRowRef
import Derived.Deep.SlicePairs
import Derived.LaidMore
import Derived.Lay
import Derived.MakeChecks
import Derived.Lib.LaidU8
namespace Go.Proofs.YtmaccmhpcagcnaaGreatDoor
open Go.ChangeShapes Go.WideShapes Go.ChangeAt Go.RowKit

theorem own : ownKnob Tryz.prog.godebug = none := by kernel_rfl
/-- what the world's shape gives: MaxLen holds a number -/
theorem maxAt_of {W : World} (h : W.ShapedOpen Tryz.prog) : MaxAt W :=
  Go.Proofs.cell_of_shapedOpen_int (zero := #[.int .i64 0]) (t := 3) h (of_decide_eq_true (by kernel_rfl)) (by kernel_rfl) rfl (by kernel_rfl) (by kernel_rfl) Tryz.underlying3

section
variable {H : Type} {enc : TypeId × Value → H} {w : World} {base : Nat} {spare : Nat → Bool} {held : Bool}
set_option maxRecDepth 100000 in
theorem open_date {r : Reach} {b0 : Nat} {v : Value} {d : DataW H} {p : List MemPlace} (hv : Value.okWide Tryz.prog w r b0 23 v) (h : DataW.Trod enc Tryz.prog w base spare held 23 v d p) :
    ∃ y m z : Int, v = .agg #[.int .i64 y, .int .i64 m, .int .i64 z] ∧ d = .agg [.lit (.int .i64 y), .lit (.int .i64 m), .lit (.int .i64 z)] ∧ p = [] ∧ (Lit.int .i64 y).wf = true ∧ (Lit.int .i64 m).wf = true ∧ (Lit.int .i64 z).wf = true := by
  obtain ⟨v0, v1, v2, y0, y1, y2, n, rfl, rfl, rfl, h0, h1, h2⟩ := Go.Joins.open_agg3 Tryz.underlying23 (by kernel_rfl) (by kernel_rfl) hv h
  obtain ⟨a, ha, rfl, wa⟩ := DataW.trod_int Tryz.underlying3 h0
  obtain ⟨b, hb, rfl, wb⟩ := DataW.trod_int Tryz.underlying3 h1
  obtain ⟨c, hc, rfl, wc⟩ := DataW.trod_int Tryz.underlying3 h2
  cases ha; cases hb; cases hc
  exact ⟨a, b, c, rfl, rfl, rfl, wa, wb, wc⟩
set_option maxRecDepth 100000 in
theorem shut_date {y m z : Int} (wy : (Lit.int .i64 y).wf = true) (wm : (Lit.int .i64 m).wf = true) (wz : (Lit.int .i64 z).wf = true) :
    DataW.Trod enc Tryz.prog w base spare held 23 (.agg #[.int .i64 y, .int .i64 m, .int .i64 z]) (.agg [.lit (.int .i64 y), .lit (.int .i64 m), .lit (.int .i64 z)]) [] := by
  have one : ∀ x : Int, (Lit.int .i64 x).wf = true → ∃ n, DataW.trod enc Tryz.prog w base spare held n 3 [.int .i64 x] = some ((.lit (.int .i64 x), []) : DataW H × List MemPlace) := fun x hx => by
    obtain ⟨n, hn⟩ := shut_int (enc := enc) (w := w) (base := base) (spare := spare) (held := held) Tryz.underlying3 hx
    exact ⟨n, hn⟩
  exact Go.Joins.shut_agg3 (y0 := (.lit (.int .i64 y), [])) (y1 := (.lit (.int .i64 m), [])) (y2 := (.lit (.int .i64 z), [])) Tryz.underlying23 (by kernel_rfl) (by kernel_rfl) (one y wy) (one m wm) (one z wz)
end

/-- a number of its kind is no greater than the greatest -/
theorem wf_le {x : Int} (h : (Lit.int .i64 x).wf = true) : x ≤ 9223372036854775807 := by
  have h1 : (decide (IntKind.i64.min ≤ x) && decide (x ≤ IntKind.i64.max)) = true := h
  rw [Bool.and_eq_true] at h1
  have h2 := of_decide_eq_true h1.2
  have e : IntKind.i64.max = 9223372036854775807 := by decide
  omega
/-- what a list without handles says of a variable on it -/
theorem var_of {l : List (String × DataW Unit)} {W : World} (hp : (l.all fun x => x.2.handleName?.isNone) = true) (hL : laidMetH Tryz.prog l W) {n : String} {d : DataW Unit} (hm : (n, d) ∈ l) : Lib.VarReads Tryz.prog W n d := by
  rw [MakeChecks.laidMetH_plain _ _ _ hp] at hL
  exact Lib.laidMet.reads hL hm
/-- a listed table of integers, wherever it stands on the list -/
theorem tab_of {W : World} {name : String} {k : IntKind} {zs : List Int} {g : Nat} {t e : TypeId} {n : Nat}
    (hg : Tryz.prog.globalNamed name = some g) (hty : (Tryz.prog.globals[g]?).map (·.type) = some t) (ht : Tryz.prog.underlying t = some (.array n e)) (he : Tryz.prog.underlying e = some (.int k)) (hce : Tryz.prog.cellsOf e = 1) (hct : Tryz.prog.cellsOf t = n)
    (h : Lib.VarReads Tryz.prog W name (Lib.tabData k zs)) : Lib.TabIs Tryz.prog W name k zs := by
  obtain ⟨g', t', cs, fuel, p, hg', ht', hvar, hd⟩ := h
  obtain rfl := Option.some.inj (hg.symm.trans hg')
  obtain rfl := Option.some.inj (hty.symm.trans ht')
  unfold Lib.TabIs
  rw [hvar, ← Lib.cells_of_tab ht he hce hct hd]

theorem aheadNamed : Tryz.prog.globalNamed "linguister/date.ahead" = some 0 := by kernel_rfl
theorem ahead_of {W : World} (h : Lib.VarReads Tryz.prog W "linguister/date.ahead" Rows.laid_linguister_date_ahead) : AheadAt W := by
  have hT : Lib.TabIs Tryz.prog W "linguister/date.ahead" .i64 [0, 31, 59, 90, 120, 151, 181, 212, 243, 273, 304, 334, 365] :=
    tab_of (t := 73) (e := 3) (n := 13) aheadNamed (by kernel_rfl) (by kernel_rfl) (by kernel_rfl) (by kernel_rfl) (by kernel_rfl) h
  intro m h1 h2
  have := hT.cell aheadNamed (m.toNat - 1) (by simp; omega)
  rw [this]
  have e : m.toNat - 1 = (m - 1).toNat := by omega
  rw [e]; rfl
theorem pow_of {W : World} (h : Lib.VarReads Tryz.prog W "internal/strconv.uint64pow10" Rows.laid_internal_strconv_uint64pow10) : Pow10At W :=
  tab_of (t := 139) (e := 90) (n := 20) powNamed (by kernel_rfl) (by kernel_rfl) (by kernel_rfl) (by kernel_rfl) (by kernel_rfl) h

end Go.Proofs.YtmaccmhpcagcnaaGreatDoor
