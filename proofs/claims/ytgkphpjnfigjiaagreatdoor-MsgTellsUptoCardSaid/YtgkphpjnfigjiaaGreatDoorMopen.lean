/-
  A message among a row's arguments: what reads as a datum reads as a tree, no greater than the datum's bulk.
-/
import Derived.Test.YtgkphpjnfigjiaaGreatDoorMrowH
import Derived.Test.YtgkphpjnfigjiaaGreatDoorPapp
import Derived.Carry
namespace Go.Proofs.YtgkphpjnfigjiaaGreatDoor
open Go.ChangeShapes Go.WideShapes Go.ChangeAt Go.RowKit Ms

/-- a message at the top: a slice at a plain address -/
def SV0 (W : World) (v : Value) (t : T) : Prop := (v = .slice none 0 0 ∧ t = .nil) ∨ ∃ b o n c, v = .slice (some ⟨b, o, none⟩) n c ∧ n ≤ c ∧ Rd W t b o n
theorem SV0.sv {W : World} {v : Value} {t : T} (h : SV0 W v t) : SV W v t := h.elim (fun h => .inl ⟨⟨_, h.1⟩, h.2⟩) .inr

section
variable {H : Type} {enc : TypeId × Value → H} {w : World} {base : Nat} {spare : Nat → Bool} {held : Bool}
theorem cells_at {a : Addr} {n : Nat} {cs : List Value} (h : w.cells? base a n = some cs) : base ≤ a.block ∧ cs.length = n ∧ ∀ i, i < n → w.cell? (a.add i) = cs[i]? := World.cells?_some h
set_option maxRecDepth 100000 in
/-- four cells that read as a node -/
theorem node_of_trod {fuel : Nat} {cs : List Value} {x : DataW H × List MemPlace} (h : DataW.trod enc Tryz.prog w base spare held fuel 35 cs = some x) :
    ∃ (k f : Int) (s : List UInt8) (v : Value) (y : DataW H × List MemPlace) (n : Nat), fuel = n + 1 ∧ cs = [.int .i64 k, .string ⟨s.toArray⟩, .int .i64 f, v] ∧ DataW.trod enc Tryz.prog w base spare held n 33 [v] = some y ∧ Rows.uptoBulk x.1 = 4 + s.length + Rows.uptoBulk y.1 := by
  obtain ⟨xs, n, hfu, hx, hl, hlen, hf⟩ := DataW.trod_struct Tryz.underlying35 h
  have hl4 : cs.length = 4 := hl.trans (by kernel_rfl)
  match xs, hlen, cs, hl4 with
  | [y0, y1, y2, y3], _, [c0, c1, c2, c3], _ =>
    have h0 : DataW.trod enc Tryz.prog w base spare held n 3 [c0] = some y0 := hf 0 _ rfl
    have h1 : DataW.trod enc Tryz.prog w base spare held n 9 [c1] = some y1 := hf 1 _ rfl
    have h2 : DataW.trod enc Tryz.prog w base spare held n 3 [c2] = some y2 := hf 2 _ rfl
    have h3 : DataW.trod enc Tryz.prog w base spare held n 33 [c3] = some y3 := hf 3 _ rfl
    obtain ⟨k, e0, e0', _⟩ := DataW.trod_int Tryz.underlying3 h0
    obtain ⟨s, e1, e1', _⟩ := DataW.trod_string Tryz.underlying9 h1
    obtain ⟨f, e2, e2', _⟩ := DataW.trod_int Tryz.underlying3 h2
    cases e0; cases e1; cases e2
    subst e0' e1' e2' hx
    refine ⟨k, f, s.data.toList, c3, y3, n, hfu, by rw [strOf_ext], h3, ?_⟩
    simp only [List.map_cons, List.map_nil, Rows.uptoBulk, Rows.uptoBulkAll]; omega
set_option maxRecDepth 100000 in
/-- two cells that read as a case -/
theorem case_of_trod {fuel : Nat} {cs : List Value} {x : DataW H × List MemPlace} (h : DataW.trod enc Tryz.prog w base spare held fuel 45 cs = some x) :
    ∃ (s : List UInt8) (v : Value) (y : DataW H × List MemPlace) (n : Nat), fuel = n + 1 ∧ cs = [.string ⟨s.toArray⟩, v] ∧ DataW.trod enc Tryz.prog w base spare held n 22 [v] = some y ∧ Rows.uptoBulk x.1 = 2 + s.length + Rows.uptoBulk y.1 := by
  obtain ⟨xs, n, hfu, hx, hl, hlen, hf⟩ := DataW.trod_struct Tryz.underlying45 h
  have hl4 : cs.length = 2 := hl.trans (by kernel_rfl)
  match xs, hlen, cs, hl4 with
  | [y0, y1], _, [c0, c1], _ =>
    have h0 : DataW.trod enc Tryz.prog w base spare held n 9 [c0] = some y0 := hf 0 _ rfl
    have h1 : DataW.trod enc Tryz.prog w base spare held n 22 [c1] = some y1 := hf 1 _ rfl
    obtain ⟨s, e1, e1', _⟩ := DataW.trod_string Tryz.underlying9 h0
    cases e1
    subst e1' hx
    refine ⟨s.data.toList, c1, y1, n, hfu, by rw [strOf_ext], h1, ?_⟩
    simp only [List.map_cons, List.map_nil, Rows.uptoBulk, Rows.uptoBulkAll]; omega

theorem bulkAll_append (a b : List (DataW H)) : Rows.uptoBulkAll (a ++ b) = Rows.uptoBulkAll a + Rows.uptoBulkAll b := by
  induction a with
  | nil => simp [Rows.uptoBulkAll]
  | cons x a ih => simp only [List.cons_append, Rows.uptoBulkAll, ih]; omega
def MsgReads (n : Nat) : Prop := ∀ (t : Bool) (v : Value) (y : DataW H × List MemPlace), DataW.trod enc Tryz.prog w base spare held n (if t = true then 22 else 33) [v] = some y →
  ∃ T', SV w v T' ∧ (if t = true then isN T' else isN.isC T') = true ∧ wt T' ≤ Rows.uptoBulk y.1

theorem addr_add (b o j : Nat) : (⟨b, o, none⟩ : Addr).add j = ⟨b, o + j, none⟩ := by unfold Addr.add; split <;> simp_all
theorem elems_none : Rows.uptoBulkAll ([] : List (DataW H)) = 0 := rfl
/-- a chain of nodes, from one of them on -/
theorem nodes_from {n : Nat} (ih : ∀ m, m < n → MsgReads (enc := enc) (w := w) (base := base) (spare := spare) (held := held) m) {b o len : Nat} {es : List (DataW H × List MemPlace)} {m : Nat} (hm : m < n + 1)
    (hel : es.length = len) (he : ∀ i, i < len → (w.cells? base ((⟨b, o, none⟩ : Addr).add (i * 4)) 4).bind (DataW.trod enc Tryz.prog w base spare held m 35) = es[i]?) :
    ∀ (k i : Nat), i + k = len → ∃ T', Rd w T' b (o + i * 4) k ∧ isN T' = true ∧ wt T' ≤ 1 + Rows.uptoBulkAll ((es.drop i).map (·.1))
  | 0, i, _ => ⟨.nil, rfl, rfl, by simp only [wt]; omega⟩
  | k + 1, i, hik => by
    obtain ⟨T', h1, h2, h3⟩ := nodes_from ih hm hel he k (i + 1) (by omega)
    have hi : i < len := by omega
    have hx : es[i]? = some (es[i]'(by omega)) := List.getElem?_eq_getElem (by omega)
    have h := he i hi
    rw [hx] at h
    obtain ⟨cs, hc, ht⟩ := Option.bind_eq_some_iff.1 h
    obtain ⟨_, hcl, hcc⟩ := cells_at hc
    obtain ⟨kk, f, s, v, y, m', e1, e2, e3, e4⟩ := node_of_trod ht
    subst e2
    obtain ⟨cs', g1, g2, g3⟩ := ih m' (by omega) false v y e3
    have c : ∀ j, j < 4 → w.cell? ⟨b, o + i * 4 + j, none⟩ = [Value.int .i64 kk, .string ⟨s.toArray⟩, .int .i64 f, v][j]? := fun j hj => by
      have := hcc j hj
      rw [addr_add, addr_add] at this
      exact this
    refine ⟨.node kk s f cs' T', ⟨v, k, rfl, c 0 (by omega), c 1 (by omega), c 2 (by omega), c 3 (by omega), g1, ?_⟩, ?_, ?_⟩
    · rw [show o + i * 4 + 4 = o + (i + 1) * 4 by omega]; exact h1
    · show (isN.isC cs' && isN T') = true
      rw [show isN.isC cs' = true from g2, h2]; rfl
    · rw [show es.drop i = es[i]'(by omega) :: es.drop (i + 1) from List.drop_eq_getElem_cons (by omega)]
      simp only [List.map_cons, Rows.uptoBulkAll, e4, wt] at h3 ⊢
      omega
/-- a chain of cases, from one of them on -/
theorem cases_from {n : Nat} (ih : ∀ m, m < n → MsgReads (enc := enc) (w := w) (base := base) (spare := spare) (held := held) m) {b o len : Nat} {es : List (DataW H × List MemPlace)} {m : Nat} (hm : m < n + 1)
    (hel : es.length = len) (he : ∀ i, i < len → (w.cells? base ((⟨b, o, none⟩ : Addr).add (i * 2)) 2).bind (DataW.trod enc Tryz.prog w base spare held m 45) = es[i]?) :
    ∀ (k i : Nat), i + k = len → ∃ T', Rd w T' b (o + i * 2) k ∧ isN.isC T' = true ∧ wt T' ≤ 1 + Rows.uptoBulkAll ((es.drop i).map (·.1))
  | 0, i, _ => ⟨.nil, rfl, rfl, by simp only [wt]; omega⟩
  | k + 1, i, hik => by
    obtain ⟨T', h1, h2, h3⟩ := cases_from ih hm hel he k (i + 1) (by omega)
    have hi : i < len := by omega
    have hx : es[i]? = some (es[i]'(by omega)) := List.getElem?_eq_getElem (by omega)
    have h := he i hi
    rw [hx] at h
    obtain ⟨cs, hc, ht⟩ := Option.bind_eq_some_iff.1 h
    obtain ⟨_, hcl, hcc⟩ := cells_at hc
    obtain ⟨s, v, y, m', e1, e2, e3, e4⟩ := case_of_trod ht
    subst e2
    obtain ⟨cs', g1, g2, g3⟩ := ih m' (by omega) true v y e3
    have c : ∀ j, j < 2 → w.cell? ⟨b, o + i * 2 + j, none⟩ = [Value.string ⟨s.toArray⟩, v][j]? := fun j hj => by
      have := hcc j hj
      rw [addr_add, addr_add] at this
      exact this
    refine ⟨.case s cs' T', ⟨v, k, rfl, c 0 (by omega), c 1 (by omega), g1, ?_⟩, ?_, ?_⟩
    · rw [show o + i * 2 + 2 = o + (i + 1) * 2 by omega]; exact h1
    · show (isN cs' && isN.isC T') = true
      rw [show isN cs' = true from g2, h2]; rfl
    · rw [show es.drop i = es[i]'(by omega) :: es.drop (i + 1) from List.drop_eq_getElem_cons (by omega)]
      simp only [List.map_cons, Rows.uptoBulkAll, e4, wt] at h3 ⊢
      omega
/-- a slice of them that has room somewhere lies at a plain address -/
theorem spot_none {a : Addr} {c i : Nat} {cs : List Value} (hc : 0 < c) (hi : i = 0) (h : w.cells? base (a.add i) c = some cs) : a.spot = none := by
  subst hi
  obtain ⟨_, hl, he⟩ := cells_at h
  have h0 := he 0 hc
  have : cs[0]? = some (cs[0]'(by omega)) := List.getElem?_eq_getElem (by omega)
  rw [this] at h0
  obtain ⟨ab, ao, asp⟩ := a
  exact Go.Proofs.cell_spot (sp := asp) h0
set_option maxRecDepth 100000 in
theorem msg_reads (hs : ∀ b, spare b = true) (n : Nat) : MsgReads (enc := enc) (w := w) (base := base) (spare := spare) (held := held) n := by
  induction n using Nat.strongRecOn with
  | _ n ih =>
    intro t v y h
    cases t with
    | true =>
      rw [if_pos rfl] at h
      suffices hh : ∃ T', SV w v T' ∧ isN T' = true ∧ wt T' ≤ Rows.uptoBulk y.1 from hh
      rcases DataW.trod_slice Tryz.underlying22 h with ⟨e1, e2⟩ | ⟨a, len, cap, es, rest, m, e1, e2, e3, h1, h2, h3, h4, h5, h6, _⟩
      · cases e1; subst e2
        exact ⟨.nil, .inl ⟨⟨none, rfl⟩, rfl⟩, rfl, Nat.le_refl _⟩
      · cases e2; subst e3
        have hce : Tryz.prog.cellsOf 35 = 4 := by kernel_rfl
        rw [hce] at h5 h6
        obtain ⟨hrl, hre⟩ := h6 (hs _)
        by_cases hcap : cap = 0
        · subst hcap
          obtain rfl : len = 0 := by omega
          refine ⟨.nil, .inl ⟨⟨some a, rfl⟩, rfl⟩, rfl, ?_⟩
          simp only [wt, Rows.uptoBulk]; omega
        · have hsp : a.spot = none := by
            by_cases hlen : 0 < len
            · have hx : es[0]? = some (es[0]'(by omega)) := List.getElem?_eq_getElem (by omega)
              have h := h5 0 hlen
              rw [hx] at h
              obtain ⟨cs, hc, _⟩ := Option.bind_eq_some_iff.1 h
              exact spot_none (by omega) (by simp; try omega) hc
            · have hx : rest[0]? = some (rest[0]'(by omega)) := List.getElem?_eq_getElem (by omega)
              have h := hre 0 (by omega)
              rw [hx] at h
              obtain ⟨cs, hc, _⟩ := Option.bind_eq_some_iff.1 h
              exact spot_none (by omega) (by simp; try omega) hc
          obtain ⟨ab, ao, asp⟩ := a
          obtain rfl : asp = none := hsp
          obtain ⟨T', g1, g2, g3⟩ := nodes_from (n := m) (fun m' hm' => ih m' (by omega)) (Nat.lt_succ_self _) h4 h5 len 0 (by omega)
          refine ⟨T', .inr ⟨ab, ao, len, cap, rfl, h2, by simpa using g1⟩, g2, ?_⟩
          simp only [Rows.uptoBulk, List.drop_zero] at g3 ⊢
          omega
    | false =>
      rw [if_neg Bool.false_ne_true] at h
      suffices hh : ∃ T', SV w v T' ∧ isN.isC T' = true ∧ wt T' ≤ Rows.uptoBulk y.1 from hh
      rcases DataW.trod_slice Tryz.underlying33 h with ⟨e1, e2⟩ | ⟨a, len, cap, es, rest, m, e1, e2, e3, h1, h2, h3, h4, h5, h6, _⟩
      · cases e1; subst e2
        exact ⟨.nil, .inl ⟨⟨none, rfl⟩, rfl⟩, rfl, Nat.le_refl _⟩
      · cases e2; subst e3
        have hce : Tryz.prog.cellsOf 45 = 2 := by kernel_rfl
        rw [hce] at h5 h6
        obtain ⟨hrl, hre⟩ := h6 (hs _)
        by_cases hcap : cap = 0
        · subst hcap
          obtain rfl : len = 0 := by omega
          refine ⟨.nil, .inl ⟨⟨some a, rfl⟩, rfl⟩, rfl, ?_⟩
          simp only [wt, Rows.uptoBulk]; omega
        · have hsp : a.spot = none := by
            by_cases hlen : 0 < len
            · have hx : es[0]? = some (es[0]'(by omega)) := List.getElem?_eq_getElem (by omega)
              have h := h5 0 hlen
              rw [hx] at h
              obtain ⟨cs, hc, _⟩ := Option.bind_eq_some_iff.1 h
              exact spot_none (by omega) (by simp; try omega) hc
            · have hx : rest[0]? = some (rest[0]'(by omega)) := List.getElem?_eq_getElem (by omega)
              have h := hre 0 (by omega)
              rw [hx] at h
              obtain ⟨cs, hc, _⟩ := Option.bind_eq_some_iff.1 h
              exact spot_none (by omega) (by simp; try omega) hc
          obtain ⟨ab, ao, asp⟩ := a
          obtain rfl : asp = none := hsp
          obtain ⟨T', g1, g2, g3⟩ := cases_from (n := m) (fun m' hm' => ih m' (by omega)) (Nat.lt_succ_self _) h4 h5 len 0 (by omega)
          refine ⟨T', .inr ⟨ab, ao, len, cap, rfl, h2, by simpa using g1⟩, g2, ?_⟩
          simp only [Rows.uptoBulk, List.drop_zero] at g3 ⊢
          omega
end
set_option maxRecDepth 100000 in
/-- an argument that is a message -/
theorem open_msg {H : Type} {enc : TypeId × Value → H} {W : World} {base : Nat} {v : Value} {d : DataW H} {p : List MemPlace} (hv : Value.okWide Tryz.prog W .any base 22 v)
    (h : DataW.Trod enc Tryz.prog W 0 (fun _ => true) true 22 v d p) : ∃ t, SV0 W v t ∧ isN t = true ∧ wt t ≤ Rows.uptoBulk d := by
  obtain ⟨fuel, hf⟩ := h
  obtain ⟨a, len, cap, rfl⟩ := okWide_slice Tryz.underlying22 hv
  obtain ⟨t, h1, h2, h3⟩ := msg_reads (fun _ => rfl) fuel true _ _ hf
  refine ⟨t, ?_, h2, h3⟩
  rcases h1 with ⟨⟨a', e⟩, rfl⟩ | h1
  · cases e
    cases a with
    | none => exact .inl ⟨rfl, rfl⟩
    | some a =>
      have hsp : a.spot = none := by
        have := hv
        simp only [Value.okWide, Tryz.underlying22, Cell.okWide, Cell.ok] at this
        exact this.2.2.2.1
      obtain ⟨ab, ao, asp⟩ := a
      obtain rfl : asp = none := hsp
      exact .inr ⟨ab, ao, 0, 0, rfl, Nat.le_refl _, rfl⟩
  · exact .inr h1
end Go.Proofs.YtgkphpjnfigjiaaGreatDoor
