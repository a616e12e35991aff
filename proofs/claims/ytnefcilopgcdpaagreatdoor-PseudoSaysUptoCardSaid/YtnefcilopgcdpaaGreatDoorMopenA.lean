/-
  A list of arguments among a row's arguments: what reads as a datum reads as a list of them, no greater than the datum's bulk. What the list gives of the plurals' words and of the numerals' pattern and signs.
-/
import Derived.Test.YtnefcilopgcdpaaGreatDoorMrowH
import Derived.Test.YtnefcilopgcdpaaGreatDoorFits
import Derived.Test.YtnefcilopgcdpaaGreatDoorSlen
import Derived.OpenShut
namespace Go.Proofs.YtnefcilopgcdpaaGreatDoor
open Go.ChangeShapes Go.WideShapes Go.ChangeAt Go.RowKit Ms

section
variable {H : Type} {enc : TypeId × Value → H} {w : World} {base : Nat} {spare : Nat → Bool} {held : Bool}
set_option maxRecDepth 100000 in
theorem dec_of_trod {fuel : Nat} {cs : List Value} {x : DataW H × List MemPlace} (h : DataW.trod enc Tryz.prog w base spare held fuel 51 cs = some x) :
    ∃ c s : Int, cs = [.int .i64 c, .int .i64 s] := by
  obtain ⟨xs, n, hfu, hx, hl, hlen, hf⟩ := DataW.trod_struct Tryz.underlying51 h
  have hl4 : cs.length = 2 := hl.trans (by kernel_rfl)
  match xs, hlen, cs, hl4 with
  | [y0, y1], _, [c0, c1], _ =>
    have h0 : DataW.trod enc Tryz.prog w base spare held n 3 [c0] = some y0 := hf 0 _ rfl
    have h1 : DataW.trod enc Tryz.prog w base spare held n 3 [c1] = some y1 := hf 1 _ rfl
    obtain ⟨k, e0, _, _⟩ := DataW.trod_int Tryz.underlying3 h0
    obtain ⟨f, e2, _, _⟩ := DataW.trod_int Tryz.underlying3 h1
    cases e0; cases e2
    exact ⟨k, f, rfl⟩
set_option maxRecDepth 100000 in
/-- five cells that read as an argument -/
theorem arg_of_trod {fuel : Nat} {cs : List Value} {x : DataW H × List MemPlace} (h : DataW.trod enc Tryz.prog w base spare held fuel 53 cs = some x) :
    ∃ a : Ar, cs = [.string ⟨a.nm.toArray⟩, .bool a.num, .int .i64 a.d.c, .int .i64 a.d.s, .string ⟨a.tx.toArray⟩] ∧ 2 + a.nm.length + a.tx.length ≤ Rows.uptoBulk x.1 := by
  obtain ⟨xs, n, hfu, hx, hl, hlen, hf⟩ := DataW.trod_struct Tryz.underlying53 h
  have hl4 : cs.length = 5 := hl.trans (by kernel_rfl)
  match xs, hlen, cs, hl4 with
  | [y0, y1, y2, y3], _, [c0, c1, c2, c3, c4], _ =>
    have h0 : DataW.trod enc Tryz.prog w base spare held n 9 [c0] = some y0 := hf 0 _ rfl
    have h1 : DataW.trod enc Tryz.prog w base spare held n 4 [c1] = some y1 := hf 1 _ rfl
    have h2 : DataW.trod enc Tryz.prog w base spare held n 51 [c2, c3] = some y2 := hf 2 _ rfl
    have h3 : DataW.trod enc Tryz.prog w base spare held n 9 [c4] = some y3 := hf 3 _ rfl
    obtain ⟨s, e0, e0', _⟩ := DataW.trod_string Tryz.underlying9 h0
    obtain ⟨bb, e1, e1'⟩ := DataW.trod_bool Tryz.underlying4 h1
    obtain ⟨c, sc, e2⟩ := dec_of_trod h2
    obtain ⟨s2, e3, e3', _⟩ := DataW.trod_string Tryz.underlying9 h3
    cases e0; cases e1; cases e2; cases e3
    subst e0' e1' e3' hx
    refine ⟨⟨s.data.toList, bb, ⟨c, sc⟩, s2.data.toList⟩, by simp only [strOf_ext], ?_⟩
    simp only [List.map_cons, List.map_nil, Rows.uptoBulk, Rows.uptoBulkAll]; omega
theorem args_from {b o len m : Nat} {es : List (DataW H × List MemPlace)}
    (hel : es.length = len) (he : ∀ i, i < len → (w.cells? base ((⟨b, o, none⟩ : Addr).add (i * 5)) 5).bind (DataW.trod enc Tryz.prog w base spare held m 53) = es[i]?) :
    ∀ (k i : Nat), i + k = len → ∃ al : List Ar, al.length = k ∧ (∀ j, j < k → ArCells w b (o + (i + j) * 5) (al.getD j az)) ∧ (∀ a ∈ al, a.nm.length + a.tx.length ≤ Rows.uptoBulkAll ((es.drop i).map (·.1))) ∧ 2 * k ≤ Rows.uptoBulkAll ((es.drop i).map (·.1))
  | 0, i, _ => ⟨[], rfl, fun j hj => absurd hj (Nat.not_lt_zero _), fun a ha => by simp at ha, Nat.zero_le _⟩
  | k + 1, i, hik => by
    obtain ⟨al, h1, h2, h3, h4⟩ := args_from hel he k (i + 1) (by omega)
    have hi : i < len := by omega
    have hx : es[i]? = some (es[i]'(by omega)) := List.getElem?_eq_getElem (by omega)
    have h := he i hi
    rw [hx] at h
    obtain ⟨cs, hc, ht⟩ := Option.bind_eq_some_iff.1 h
    obtain ⟨_, hcl, hcc⟩ := cells_at hc
    obtain ⟨a, e2, e4⟩ := arg_of_trod ht
    subst e2
    have c : ∀ j, j < 5 → w.cell? ⟨b, o + i * 5 + j, none⟩ = [Value.string ⟨a.nm.toArray⟩, .bool a.num, .int .i64 a.d.c, .int .i64 a.d.s, .string ⟨a.tx.toArray⟩][j]? := fun j hj => by
      have := hcc j hj
      rw [addr_add, addr_add] at this
      exact this
    have hd : es.drop i = es[i]'(by omega) :: es.drop (i + 1) := List.drop_eq_getElem_cons (by omega)
    refine ⟨a :: al, by simp [h1], ?_, ?_, ?_⟩
    · intro j hj
      cases j with
      | zero => exact ⟨c 0 (by omega), c 1 (by omega), c 2 (by omega), c 3 (by omega), c 4 (by omega)⟩
      | succ j =>
        have := h2 j (by omega)
        rw [show i + (j + 1) = i + 1 + j by omega]
        exact this
    · intro a' ha'
      rw [hd]
      simp only [List.map_cons, Rows.uptoBulkAll]
      rcases List.mem_cons.1 ha' with rfl | ha'
      · omega
      · have := h3 a' ha'; omega
    · rw [hd]
      simp only [List.map_cons, Rows.uptoBulkAll]
      omega
end
set_option maxRecDepth 100000 in
/-- an argument that is a list of arguments -/
theorem open_args {H : Type} {enc : TypeId × Value → H} {W : World} {base : Nat} {v : Value} {d : DataW H} {p : List MemPlace} (hv : Value.okWide Tryz.prog W .any base 23 v)
    (h : DataW.Trod enc Tryz.prog W 0 (fun _ => true) true 23 v d p) : ∃ al, AR v al W ∧ 2 * al.length ≤ Rows.uptoBulk d ∧ ∀ a ∈ al, a.nm.length + a.tx.length ≤ Rows.uptoBulk d := by
  obtain ⟨fuel, hf0⟩ := h
  obtain ⟨a0, len, cap, rfl⟩ := okWide_slice Tryz.underlying23 hv
  have hf : DataW.trod enc Tryz.prog W 0 (fun _ => true) true fuel 23 [.slice a0 len cap] = some (d, p) := hf0
  clear hf0
  rcases DataW.trod_slice Tryz.underlying23 hf with ⟨e1, e2⟩ | ⟨a, len', cap', es, rest, m, e1, e2, e3, h1, h2, h3, h4, h5, h6, _⟩
  · cases e1
    exact ⟨[], ⟨none, 0, rfl, .inl rfl⟩, Nat.zero_le _, fun a ha => by simp at ha⟩
  · cases e2
    have hd : d = .slice (es.map (·.1)) (rest.map (·.1)) := congrArg Prod.fst e3
    subst hd
    clear e3
    have hce : Tryz.prog.cellsOf 53 = 5 := by kernel_rfl
    rw [hce] at h5
    by_cases hlen : len = 0
    · subst hlen
      exact ⟨[], ⟨some a, cap, rfl, .inl rfl⟩, Nat.zero_le _, fun a ha => by simp at ha⟩
    · have hsp : a.spot = none := by
        have hx : es[0]? = some (es[0]'(by omega)) := List.getElem?_eq_getElem (by omega)
        have h := h5 0 (by omega)
        rw [hx] at h
        obtain ⟨cs, hc, _⟩ := Option.bind_eq_some_iff.1 h
        exact spot_none (by omega) (by simp) hc
      obtain ⟨ab, ao, asp⟩ := a
      obtain rfl : asp = none := hsp
      obtain ⟨al, g1, g2, g3, g4⟩ := args_from h4 h5 len 0 (by omega)
      refine ⟨al, ⟨_, cap, by rw [g1], .inr ⟨ab, ao, rfl, fun i hi => ?_⟩⟩, ?_, ?_⟩
      · have := g2 i (by omega)
        rwa [Nat.zero_add] at this
      · simp only [Rows.uptoBulk, List.drop_zero] at g4 ⊢; omega
      · intro a ha
        have := g3 a ha
        simp only [Rows.uptoBulk, List.drop_zero] at this ⊢; omega
/-- a listed struct or array, cell by cell -/
theorem lit_str {H : Type} {enc : TypeId × Value → H} {w : World} {base : Nat} {spare : Nat → Bool} {held : Bool} {fuel : Nat} {c : Value} {x : DataW H × List MemPlace} {l : List UInt8} (h : DataW.trod enc Tryz.prog w base spare held fuel 9 [c] = some x) (hx : x.1 = .lit (.string l)) : c = .string ⟨l.toArray⟩ := by
  obtain ⟨s, e, e', _⟩ := DataW.trod_string Tryz.underlying9 h
  cases e; subst e'
  have h3 : s.data.toList = l := by injection hx with t; injection t
  rw [← h3, strOf_ext]
theorem lit_int {H : Type} {enc : TypeId × Value → H} {w : World} {base : Nat} {spare : Nat → Bool} {held : Bool} {fuel : Nat} {c : Value} {x : DataW H × List MemPlace} {n : Int} (h : DataW.trod enc Tryz.prog w base spare held fuel 3 [c] = some x) (hx : x.1 = .lit (.int .i64 n)) : c = .int .i64 n := by
  obtain ⟨s, e, e', _⟩ := DataW.trod_int Tryz.underlying3 h
  cases e; subst e'
  have h3 : s = n := by injection hx with t; injection t
  rw [h3]
theorem lit_u8 {H : Type} {enc : TypeId × Value → H} {w : World} {base : Nat} {spare : Nat → Bool} {held : Bool} {fuel : Nat} {c : Value} {x : DataW H × List MemPlace} {n : Int} (h : DataW.trod enc Tryz.prog w base spare held fuel 5 [c] = some x) (hx : x.1 = .lit (.int .u8 n)) : c = .int .u8 n := by
  obtain ⟨s, e, e', _⟩ := DataW.trod_int Tryz.underlying5 h
  cases e; subst e'
  have h3 : s = n := by injection hx with t; injection t
  rw [h3]
set_option maxRecDepth 100000 in
theorem pl_of {W : World} (h : Lib.VarReads Tryz.prog W "linguister/plural.kinds" Rows.laid_linguister_plural_kinds) : PlAt W := by
  obtain ⟨g', t', cs, fuel, p, hg', ht', hvar, hd⟩ := h
  have hnm : Tryz.prog.globalNamed "linguister/plural.kinds" = some 5 := by kernel_rfl
  obtain rfl := Option.some.inj (hnm.symm.trans hg')
  obtain rfl : 172 = t' := Option.some.inj ((show (Tryz.prog.globals[5]?).map (·.type) = some 172 by kernel_rfl).symm.trans ht')
  have hv := World.var?_cell hnm hvar
  obtain ⟨xs, m, _, hx, hl, hlen, hf⟩ := DataW.trod_array Tryz.underlying172 hd
  have hl5 : cs.toList.length = 5 := hl.trans (by kernel_rfl)
  have hce : Tryz.prog.cellsOf 9 = 1 := by kernel_rfl
  rw [hce] at hf
  have hx1 := DataW.agg.inj (congrArg Prod.fst hx)
  have hcv : ∀ i, W.cell? ⟨5, i, none⟩ = cs.toList[i]? := fun i => by rw [hv i, Array.getElem?_toList]
  generalize cs.toList = csl at *
  match xs, hlen, csl, hl5 with
  | [y0, y1, y2, y3, y4], _, [c0, c1, c2, c3, c4], _ =>
    simp only [List.map_cons, List.map_nil, List.cons.injEq, and_true] at hx1
    obtain ⟨x0, x1, x2, x3, x4⟩ := hx1
    have e0 := lit_str (c := c0) (hf 0 (by decide)) x0.symm
    have e1 := lit_str (c := c1) (hf 1 (by decide)) x1.symm
    have e2 := lit_str (c := c2) (hf 2 (by decide)) x2.symm
    have e3 := lit_str (c := c3) (hf 3 (by decide)) x3.symm
    have e4 := lit_str (c := c4) (hf 4 (by decide)) x4.symm
    subst e0 e1 e2 e3 e4
    intro j hj
    rw [hcv j]
    match j, hj with
    | 0, _ => rfl
    | 1, _ => rfl
    | 2, _ => rfl
    | 3, _ => rfl
    | 4, _ => rfl
set_option maxRecDepth 100000 in
theorem ev_of {W : World} (h : Lib.VarReads Tryz.prog W "linguister/eval.pattern" Rows.laid_linguister_eval_pattern) (h2 : Lib.VarReads Tryz.prog W "linguister/eval.signs" Rows.laid_linguister_eval_signs) : EvAt W := by
  have hp : ∀ i : Nat, W.cell? ⟨3, i, none⟩ = [Value.string ⟨#[]⟩, .string ⟨#[]⟩, .int .i64 1, .int .i64 0, .int .i64 3, .int .i64 3, .int .i64 0][i]? := by
    obtain ⟨g', t', cs, fuel, p, hg', ht', hvar, hd⟩ := h
    have hnm : Tryz.prog.globalNamed "linguister/eval.pattern" = some 3 := by kernel_rfl
    obtain rfl := Option.some.inj (hnm.symm.trans hg')
    obtain rfl : 163 = t' := Option.some.inj ((show (Tryz.prog.globals[3]?).map (·.type) = some 163 by kernel_rfl).symm.trans ht')
    have hv := World.var?_cell hnm hvar
    obtain ⟨xs, m, _, hx, hl, hlen, hf⟩ := DataW.trod_struct Tryz.underlying163 hd
    have hl5 : cs.toList.length = 7 := hl.trans (by kernel_rfl)
    have hx1 := DataW.agg.inj (congrArg Prod.fst hx)
    have hcv : ∀ i, W.cell? ⟨3, i, none⟩ = cs.toList[i]? := fun i => by rw [hv i, Array.getElem?_toList]
    generalize cs.toList = csl at *
    match xs, hlen, csl, hl5 with
    | [y0, y1, y2, y3, y4, y5, y6], _, [c0, c1, c2, c3, c4, c5, c6], _ =>
      simp only [List.map_cons, List.map_nil, List.cons.injEq, and_true] at hx1
      obtain ⟨x0, x1, x2, x3, x4, x5, x6⟩ := hx1
      have e0 := lit_str (c := c0) (hf 0 _ rfl) x0.symm
      have e1 := lit_str (c := c1) (hf 1 _ rfl) x1.symm
      have e2 := lit_int (c := c2) (hf 2 _ rfl) x2.symm
      have e3 := lit_int (c := c3) (hf 3 _ rfl) x3.symm
      have e4 := lit_int (c := c4) (hf 4 _ rfl) x4.symm
      have e5 := lit_int (c := c5) (hf 5 _ rfl) x5.symm
      have e6 := lit_int (c := c6) (hf 6 _ rfl) x6.symm
      subst e0 e1 e2 e3 e4 e5 e6
      exact hcv
  have hs : ∀ i : Nat, W.cell? ⟨4, i, none⟩ = [Value.int .u8 46, .int .u8 44][i]? := by
    obtain ⟨g', t', cs, fuel, p, hg', ht', hvar, hd⟩ := h2
    have hnm : Tryz.prog.globalNamed "linguister/eval.signs" = some 4 := by kernel_rfl
    obtain rfl := Option.some.inj (hnm.symm.trans hg')
    obtain rfl : 165 = t' := Option.some.inj ((show (Tryz.prog.globals[4]?).map (·.type) = some 165 by kernel_rfl).symm.trans ht')
    have hv := World.var?_cell hnm hvar
    obtain ⟨xs, m, _, hx, hl, hlen, hf⟩ := DataW.trod_struct Tryz.underlying165 hd
    have hl5 : cs.toList.length = 2 := hl.trans (by kernel_rfl)
    have hx1 := DataW.agg.inj (congrArg Prod.fst hx)
    have hcv : ∀ i, W.cell? ⟨4, i, none⟩ = cs.toList[i]? := fun i => by rw [hv i, Array.getElem?_toList]
    generalize cs.toList = csl at *
    match xs, hlen, csl, hl5 with
    | [y0, y1], _, [c0, c1], _ =>
      simp only [List.map_cons, List.map_nil, List.cons.injEq, and_true] at hx1
      obtain ⟨x0, x1⟩ := hx1
      have e0 := lit_u8 (c := c0) (hf 0 _ rfl) x0.symm
      have e1 := lit_u8 (c := c1) (hf 1 _ rfl) x1.symm
      subst e0 e1
      exact hcv
  exact ⟨hp 0, hp 1, hp 2, hp 3, hp 4, hp 5, hp 6, hs 0, hs 1⟩
end Go.Proofs.YtnefcilopgcdpaaGreatDoor
