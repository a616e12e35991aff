/-
  What the rows' proofs of this seat share: a date among the arguments; what the listed package-level variables give a walk.
-/
import Derived.Test.YtmaccmhpcagcnaaDoorCards
import Derived.Test.YtmaccmhpcagcnaaDoorTie
import Derived.Test.YtmaccmhpcagcnaaDoorFormat
import Derived.Test.YtmaccmhpcagcnaaDoorRel
import Derived.ProofKit
import Derived.OpenShut
import Derived.Deep.DeepHandedRow
import Derived.Deep.DeepWitnessRowRef
import Derived.Deep.SlicePairs
import Derived.LaidMore
import Derived.Lay
import Derived.MakeChecks
import Derived.Lib.LaidU8
namespace Go.Proofs.YtmaccmhpcagcnaaDoor
open Go.ChangeShapes Go.WideShapes Go.ChangeAt Go.RowKit

theorem own : ownKnob Tryd.prog.godebug = none := by kernel_rfl
/-- what the world's shape gives: MaxLen holds a number -/
theorem maxAt_of {W : World} (h : W.ShapedOpen Tryd.prog) : MaxAt W :=
  Go.Proofs.cell_of_shapedOpen_int (zero := #[.int .i64 0]) (t := 3) h (of_decide_eq_true (by kernel_rfl)) (by kernel_rfl) rfl (by kernel_rfl) (by kernel_rfl) Tryd.underlying3

section
variable {H : Type} {enc : TypeId × Value → H} {w : World} {base : Nat} {spare : Nat → Bool} {held : Bool}
set_option maxRecDepth 100000 in
theorem open_date {r : Reach} {b0 : Nat} {v : Value} {d : DataW H} {p : List MemPlace} (hv : Value.okWide Tryd.prog w r b0 23 v) (h : DataW.Trod enc Tryd.prog w base spare held 23 v d p) :
    ∃ y m z : Int, v = .agg #[.int .i64 y, .int .i64 m, .int .i64 z] ∧ d = .agg [.lit (.int .i64 y), .lit (.int .i64 m), .lit (.int .i64 z)] ∧ p = [] ∧ (Lit.int .i64 y).wf = true ∧ (Lit.int .i64 m).wf = true ∧ (Lit.int .i64 z).wf = true := by
  obtain ⟨v0, v1, v2, y0, y1, y2, n, rfl, rfl, rfl, h0, h1, h2⟩ := Go.Joins.open_agg3 Tryd.underlying23 (by kernel_rfl) (by kernel_rfl) hv h
  obtain ⟨a, ha, rfl, wa⟩ := DataW.trod_int Tryd.underlying3 h0
  obtain ⟨b, hb, rfl, wb⟩ := DataW.trod_int Tryd.underlying3 h1
  obtain ⟨c, hc, rfl, wc⟩ := DataW.trod_int Tryd.underlying3 h2
  cases ha; cases hb; cases hc
  exact ⟨a, b, c, rfl, rfl, rfl, wa, wb, wc⟩
set_option maxRecDepth 100000 in
theorem shut_date {y m z : Int} (wy : (Lit.int .i64 y).wf = true) (wm : (Lit.int .i64 m).wf = true) (wz : (Lit.int .i64 z).wf = true) :
    DataW.Trod enc Tryd.prog w base spare held 23 (.agg #[.int .i64 y, .int .i64 m, .int .i64 z]) (.agg [.lit (.int .i64 y), .lit (.int .i64 m), .lit (.int .i64 z)]) [] := by
  have one : ∀ x : Int, (Lit.int .i64 x).wf = true → ∃ n, DataW.trod enc Tryd.prog w base spare held n 3 [.int .i64 x] = some ((.lit (.int .i64 x), []) : DataW H × List MemPlace) := fun x hx => by
    obtain ⟨n, hn⟩ := shut_int (enc := enc) (w := w) (base := base) (spare := spare) (held := held) Tryd.underlying3 hx
    exact ⟨n, hn⟩
  exact Go.Joins.shut_agg3 (y0 := (.lit (.int .i64 y), [])) (y1 := (.lit (.int .i64 m), [])) (y2 := (.lit (.int .i64 z), [])) Tryd.underlying23 (by kernel_rfl) (by kernel_rfl) (one y wy) (one m wm) (one z wz)
end

/-- what a list without handles says of a variable on it -/
theorem var_of {l : List (String × DataW Unit)} {W : World} (hp : (l.all fun x => x.2.handleName?.isNone) = true) (hL : laidMetH Tryd.prog l W) {n : String} {d : DataW Unit} (hm : (n, d) ∈ l) : Lib.VarReads Tryd.prog W n d := by
  rw [MakeChecks.laidMetH_plain _ _ _ hp] at hL
  exact Lib.laidMet.reads hL hm
/-- a listed table of integers, wherever it stands on the list -/
theorem tab_of {W : World} {name : String} {k : IntKind} {zs : List Int} {g : Nat} {t e : TypeId} {n : Nat}
    (hg : Tryd.prog.globalNamed name = some g) (hty : (Tryd.prog.globals[g]?).map (·.type) = some t) (ht : Tryd.prog.underlying t = some (.array n e)) (he : Tryd.prog.underlying e = some (.int k)) (hce : Tryd.prog.cellsOf e = 1) (hct : Tryd.prog.cellsOf t = n)
    (h : Lib.VarReads Tryd.prog W name (Lib.tabData k zs)) : Lib.TabIs Tryd.prog W name k zs := by
  obtain ⟨g', t', cs, fuel, p, hg', ht', hvar, hd⟩ := h
  obtain rfl := Option.some.inj (hg.symm.trans hg')
  obtain rfl := Option.some.inj (hty.symm.trans ht')
  unfold Lib.TabIs
  rw [hvar, ← Lib.cells_of_tab ht he hce hct hd]

theorem aheadNamed : Tryd.prog.globalNamed "linguister/date.ahead" = some 1 := by kernel_rfl
theorem ahead_of {W : World} (h : Lib.VarReads Tryd.prog W "linguister/date.ahead" Rows.laid_linguister_date_ahead) : AheadAt W := by
  have hT : Lib.TabIs Tryd.prog W "linguister/date.ahead" .i64 [0, 31, 59, 90, 120, 151, 181, 212, 243, 273, 304, 334, 365] :=
    tab_of (t := 65) (e := 3) (n := 13) aheadNamed (by kernel_rfl) (by kernel_rfl) (by kernel_rfl) (by kernel_rfl) (by kernel_rfl) h
  intro m h1 h2
  have := hT.cell aheadNamed (m.toNat - 1) (by simp; omega)
  rw [this]
  have e : m.toNat - 1 = (m - 1).toNat := by omega
  rw [e]; rfl
theorem pow_of {W : World} (h : Lib.VarReads Tryd.prog W "internal/strconv.uint64pow10" Rows.laid_internal_strconv_uint64pow10) : Pow10At W :=
  tab_of (t := 117) (e := 100) (n := 20) powNamed (by kernel_rfl) (by kernel_rfl) (by kernel_rfl) (by kernel_rfl) (by kernel_rfl) h
theorem unitsNamed : Tryd.prog.globalNamed "linguister/rel.units" = some 0 := by kernel_rfl
theorem units_of {W : World} (h : Lib.VarReads Tryd.prog W "linguister/rel.units" Rows.laid_linguister_rel_units) : ∃ b o c, UnitsAt W b o c := by
  obtain ⟨g', t', cs, fuel, p, hg', ht', hvar, hd⟩ := h
  obtain rfl := Option.some.inj (unitsNamed.symm.trans hg')
  obtain rfl : 47 = t' := Option.some.inj ((show (Tryd.prog.globals[0]?).map (·.type) = some 47 by kernel_rfl).symm.trans ht')
  rcases Go.Deep.open_slice_pairs Tryd.underlying47 Tryd.underlying48 (by kernel_rfl) rfl rfl (by kernel_rfl) (by kernel_rfl) hd with ⟨_, h2⟩ | ⟨a, len, cap, m, n, V0, V1, D0, D1, P0, P1, hcs, _, hl, _, hm, hx, hi⟩
  · cases h2
  · have hx1 := congrArg Prod.fst hx
    have hx2 : ((List.range len).map fun i => (DataW.agg [D0 i, D1 i] : DataW Unit)) = [.agg [.lit (.string [100, 97, 121]), .lit (.int .i64 86400)], .agg [.lit (.string [104, 111, 117, 114]), .lit (.int .i64 3600)], .agg [.lit (.string [109, 105, 110, 117, 116, 101]), .lit (.int .i64 60)]] := by
      have := DataW.slice.inj hx1
      exact this.1.symm
    have hlen : len = 3 := by have := congrArg List.length hx2; simpa using this
    subst hlen
    have hm3 : 3 ≤ m := by rw [hm]; split <;> omega
    have el : ∀ i, i < 3 → ∀ s z, ((List.range 3).map fun i => (DataW.agg [D0 i, D1 i] : DataW Unit))[i]? = some (.agg [.lit (.string s), .lit (.int .i64 z)]) → W.cell? (a.add (i * 2)) = some (.string ⟨s.toArray⟩) ∧ W.cell? (a.add (i * 2 + 1)) = some (.int .i64 z) := by
      intro i hi3 s z hq
      obtain ⟨h1, h2, h3, h4⟩ := hi i (by omega)
      rw [List.getElem?_map, List.getElem?_range hi3] at hq
      have hq' : (DataW.agg [D0 i, D1 i] : DataW Unit) = .agg [.lit (.string s), .lit (.int .i64 z)] := Option.some.inj hq
      have e0 : D0 i = .lit (.string s) := by have := DataW.agg.inj hq'; exact (List.cons.inj this).1
      have e1 : D1 i = .lit (.int .i64 z) := by have := DataW.agg.inj hq'; exact (List.cons.inj (List.cons.inj this).2).1
      obtain ⟨s', hs', hs2, _⟩ := DataW.trod_string Tryd.underlying9 h3
      obtain ⟨z', hz', hz2, _⟩ := DataW.trod_int Tryd.underlying3 h4
      rw [e0] at hs2; rw [e1] at hz2
      have hs3 : s = s'.data.toList := by have := congrArg Prod.fst hs2; injection this with t; injection t
      have hz3 : z = z' := by have := congrArg Prod.fst hz2; injection this with t; injection t
      refine ⟨?_, ?_⟩
      · rw [h1]; have := (List.cons.inj hs').1; rw [this, hs3, strOf_ext]
      · rw [h2]; have := (List.cons.inj hz').1; rw [this, hz3]
    have h0 := el 0 (by omega) _ _ (by rw [hx2]; rfl)
    have h1 := el 1 (by omega) _ _ (by rw [hx2]; rfl)
    have h2 := el 2 (by omega) _ _ (by rw [hx2]; rfl)
    obtain ⟨ab, ao, asp⟩ := a
    have hsp : asp = none := Go.Proofs.cell_spot h0.1
    subst hsp
    have hv := World.var?_cell unitsNamed hvar 0
    have hv' : W.cell? ⟨0, 0, none⟩ = some (.slice (some ⟨ab, ao, none⟩) 3 cap) := by
      rw [hv]; rw [← Array.getElem?_toList, hcs]; rfl
    exact ⟨ab, ao, cap, hv', h0.1, h0.2, h1.1, h1.2, h2.1, h2.2⟩

end Go.Proofs.YtmaccmhpcagcnaaDoor
