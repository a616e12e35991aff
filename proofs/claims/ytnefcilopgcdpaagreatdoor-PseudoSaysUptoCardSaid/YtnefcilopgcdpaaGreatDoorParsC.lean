/-
  How rules lie in memory: ranges, relations, parts, rules, by rows of the call's own; by places.
  rule.Parse, what its two loops keep; one relation more, one part more.
-/
import Derived.Test.YtnefcilopgcdpaaGreatDoorParsA
import Derived.Test.YtnefcilopgcdpaaGreatDoorParsB
namespace Go.Proofs.YtnefcilopgcdpaaGreatDoor
open Go.RowKit

theorem row_base {W : World} {b b' size n : Nat} {e : TypeId} {v : Value} {xs : List Value} (h : W.ownsRow b e size v n xs) (hb : b' ≤ b) : W.ownsRow b' e size v n xs := by
  refine ⟨h.1, ?_⟩
  rcases h.2 with h | ⟨g, cap, cur, h1, h2, h3⟩
  · exact .inl h
  · exact .inr ⟨g, cap, cur, h1, Nat.le_trans hb h2, h3⟩
theorem row_form {W : World} {b size n : Nat} {e : TypeId} {v : Value} {xs : List Value} (h : W.ownsRow b e size v n xs) : ∃ a c, v = .slice a n c ∧ (n = 0 ∨ ∃ g, a = some ⟨g, 0, none⟩ ∧ v.ownBlock = some g ∧ b ≤ g ∧ g < W.heap.size ∧ ∀ j u, xs[j]? = some u → W.cell? ⟨g, 0 + j, none⟩ = some u) := by
  rcases h.2 with ⟨rfl, rfl⟩ | ⟨g, cap, cur, rfl, hb, hg, _⟩
  · exact ⟨none, 0, rfl, .inl rfl⟩
  · refine ⟨some ⟨g, 0, none⟩, cap, rfl, .inr ⟨g, rfl, rfl, hb, (Array.getElem?_eq_some_iff.1 hg).1, fun j u hj => ?_⟩⟩
    have h1 := h.cells (g := g) rfl j u hj
    have ha : (⟨g, 0, none⟩ : Addr).add j = ⟨g, 0 + j, none⟩ := by rw [Nat.zero_add]; unfold Addr.add; split <;> simp_all
    rwa [ha] at h1
theorem rngCells_at : ∀ (rs : List (Int × Int)) (i : Nat), i < rs.length → (rngCells rs)[i * 2]? = some (.int .i64 (rs.getD i (0, 0)).1) ∧ (rngCells rs)[i * 2 + 1]? = some (.int .i64 (rs.getD i (0, 0)).2)
  | [], i, h => by simp at h
  | p :: l, 0, _ => ⟨rfl, rfl⟩
  | p :: l, i + 1, h => by
    have := rngCells_at l i (by simpa using h)
    rw [show (i + 1) * 2 = i * 2 + 1 + 1 by omega]
    exact this
theorem RngR.below {W W' : World} {v : Value} {rs : List (Int × Int)} (h : RngR W v rs) (hb : Below W.heap.size W W') : RngR W' v rs := owns_below h hb
theorem RngR.places {W : World} {v : Value} {rs : List (Int × Int)} (h : RngR W v rs) : ∃ a c, v = .slice a rs.length c ∧ (rs.length = 0 ∨ ∃ g o, a = some ⟨g, o, none⟩ ∧ ∀ i, i < rs.length → W.cell? ⟨g, o + i * 2, none⟩ = some (.int .i64 (rs.getD i (0, 0)).1) ∧ W.cell? ⟨g, o + i * 2 + 1, none⟩ = some (.int .i64 (rs.getD i (0, 0)).2)) := by
  obtain ⟨a, c, rfl, h0 | ⟨g, rfl, _, _, _, hc⟩⟩ := row_form h
  · exact ⟨a, c, rfl, .inl h0⟩
  · exact ⟨_, c, rfl, .inr ⟨g, 0, rfl, fun i hi => ⟨hc _ _ (rngCells_at rs i hi).1, hc _ _ (rngCells_at rs i hi).2⟩⟩⟩
/-- relations: their cells, the ranges' slices given -/
def relCells : List Re → List Value → List Value
  | r :: l, v :: vs => .int .u8 (r.op : Int) :: .int .i64 r.md :: .bool r.no :: v :: relCells l vs
  | _, _ => []
theorem relCells_app : ∀ (a b : List Re) (va vb : List Value), a.length = va.length → relCells (a ++ b) (va ++ vb) = relCells a va ++ relCells b vb
  | [], b, [], vb, _ => rfl
  | [], _, _ :: _, _, h => by simp at h
  | _ :: _, _, [], _, h => by simp at h
  | r :: a, b, v :: va, vb, h => by simp [relCells, relCells_app a b va vb (by simpa using h)]
def reZ : Re := ⟨0, 0, false, []⟩
theorem relCells_at : ∀ (rs : List Re) (vs : List Value) (i : Nat), rs.length = vs.length → i < rs.length → (relCells rs vs)[i * 4]? = some (.int .u8 ((rs.getD i reZ).op : Int)) ∧ (relCells rs vs)[i * 4 + 1]? = some (.int .i64 (rs.getD i reZ).md) ∧ (relCells rs vs)[i * 4 + 2]? = some (.bool (rs.getD i reZ).no) ∧ (relCells rs vs)[i * 4 + 3]? = some (vs.getD i .nilIface)
  | [], _, i, _, h => by simp at h
  | _ :: _, [], _, h, _ => by simp at h
  | r :: l, v :: vs, 0, _, _ => ⟨rfl, rfl, rfl, rfl⟩
  | r :: l, v :: vs, i + 1, h, hi => by
    have := relCells_at l vs i (by simpa using h) (by simpa using hi)
    rw [show (i + 1) * 4 = i * 4 + 1 + 1 + 1 + 1 by omega]
    exact this
def RelR (W : World) (v : Value) (rels : List Re) : Prop := ∃ vs : List Value, rels.length = vs.length ∧ W.ownsRow 0 203 4 v rels.length (relCells rels vs) ∧ ∀ i, i < rels.length → RngR W (vs.getD i .nilIface) (rels.getD i reZ).rs
theorem RelR.below {W W' : World} {v : Value} {rs : List Re} (h : RelR W v rs) (hb : Below W.heap.size W W') : RelR W' v rs := by
  obtain ⟨vs, h1, h2, h3⟩ := h
  exact ⟨vs, h1, owns_below h2 hb, fun i hi => (h3 i hi).below hb⟩
theorem RelR.places {W : World} {v : Value} {rs : List Re} (h : RelR W v rs) : ∃ (a : Option Addr) (c : Nat) (u : Nat → Value), v = .slice a rs.length c ∧ (∀ i, i < rs.length → RngR W (u i) (rs.getD i reZ).rs) ∧ (rs.length = 0 ∨ ∃ g o, a = some ⟨g, o, none⟩ ∧ ∀ i, i < rs.length → W.cell? ⟨g, o + i * 4, none⟩ = some (.int .u8 ((rs.getD i reZ).op : Int)) ∧ W.cell? ⟨g, o + i * 4 + 1, none⟩ = some (.int .i64 (rs.getD i reZ).md) ∧ W.cell? ⟨g, o + i * 4 + 2, none⟩ = some (.bool (rs.getD i reZ).no) ∧ W.cell? ⟨g, o + i * 4 + 3, none⟩ = some (u i)) := by
  obtain ⟨vs, h1, h2, h3⟩ := h
  obtain ⟨a, c, rfl, h0 | ⟨g, rfl, _, _, _, hc⟩⟩ := row_form h2
  · exact ⟨a, c, fun i => vs.getD i .nilIface, rfl, h3, .inl h0⟩
  · refine ⟨_, c, fun i => vs.getD i .nilIface, rfl, h3, .inr ⟨g, 0, rfl, fun i hi => ?_⟩⟩
    obtain ⟨q0, q1, q2, q3⟩ := relCells_at rs vs i h1 hi
    exact ⟨hc _ _ q0, hc _ _ q1, hc _ _ q2, hc _ _ q3⟩
/-- rules -/
def RuleR (W : World) (v : Value) (r : List (List Re)) : Prop := ∃ vs : List Value, r.length = vs.length ∧ W.ownsRow 0 200 1 v r.length vs ∧ ∀ i, i < r.length → RelR W (vs.getD i .nilIface) (r.getD i [])
theorem RuleR.below {W W' : World} {v : Value} {r : List (List Re)} (h : RuleR W v r) (hb : Below W.heap.size W W') : RuleR W' v r := by
  obtain ⟨vs, h1, h2, h3⟩ := h
  exact ⟨vs, h1, owns_below h2 hb, fun i hi => (h3 i hi).below hb⟩
theorem RuleR.places {W : World} {v : Value} {r : List (List Re)} (h : RuleR W v r) : ∃ (a : Option Addr) (c : Nat) (u : Nat → Value), v = .slice a r.length c ∧ (∀ i, i < r.length → RelR W (u i) (r.getD i [])) ∧ (r.length = 0 ∨ ∃ g o, a = some ⟨g, o, none⟩ ∧ ∀ i, i < r.length → W.cell? ⟨g, o + i, none⟩ = some (u i)) := by
  obtain ⟨vs, h1, h2, h3⟩ := h
  obtain ⟨a, c, rfl, h0 | ⟨g, rfl, _, _, _, hc⟩⟩ := row_form h2
  · exact ⟨a, c, fun i => vs.getD i .nilIface, rfl, h3, .inl h0⟩
  · refine ⟨_, c, fun i => vs.getD i .nilIface, rfl, h3, .inr ⟨g, 0, rfl, fun i hi => hc _ _ ?_⟩⟩
    show vs[i]? = some (vs.getD i .nilIface)
    rw [List.getD_eq_getElem?_getD, List.getElem?_eq_getElem (by omega)]; rfl
theorem RngR.form {W : World} {v : Value} {rs : List (Int × Int)} (h : RngR W v rs) : ∃ a m c, v = .slice a m c := by obtain ⟨a, c, rfl, _⟩ := h.places; exact ⟨_, _, _, rfl⟩
theorem RelR.form {W : World} {v : Value} {rs : List Re} (h : RelR W v rs) : ∃ a m c, v = .slice a m c := by obtain ⟨a, c, u, rfl, _⟩ := h.places; exact ⟨_, _, _, rfl⟩
end Go.Proofs.YtnefcilopgcdpaaGreatDoor
namespace Go.Proofs.YtnefcilopgcdpaaGreatDoor
open Go.RowKit Go.Shelf
attribute [local go_sem] Oper.semAt_some

/-- THE LAW, at an outermost loop, for a plain walk, the fence written out. -/
theorem wp_seqc2 {P : Program} {α : Type} {g : Operand} {ps : Array Tmp} {assign body : Code} {Q : Exit → Act → World → Prop} {a : Act} {w : World}
    {gf : Nat} {lb : Array Value} (hg : a.eval g = .func (.func gf) #[] lb) (eg : ∀ args w, (callFunc gf args).run P w = .ok (.enter gf args) w)
    {enc : α → Array Value} {xs : List α} {sb : Nat} {S : Nat → Prop} (hseq : ∀ n, 1 ≤ n → SeqC Fence.wide n P gf lb enc xs sb S w) (hsb : sb < w.heap.size) (hn₀ : ∀ k, S k → k < w.heap.size) (hps : ∀ x, (enc x).size = ps.size)
    (I : List α → World → Prop) (hI : OwnFrom w.heap.size I) (hS : Stores sb I) (h0 : I [] w) (a₁ : α → Act)
    (hassign : ∀ (l : Nat) (x : α) (W : World) (K : Act → World → Prop), K (a₁ x) W →
      assign.wpIn (Fence.wide.inRound l) 7 P (Exit.then K (fun _ _ _ => False)) { tmps := (ps.zip (enc x)).foldl (fun t (p, v) => t.setIfInBounds p v) a.tmps, defers := [] } W)
    (hbody : ∀ (l : Nat) (pre : List α) (x : α) (rest : List α) (W : World), w.heap.size ≤ l → xs = pre ++ x :: rest → (∃ r, W.heap[l]? = some (.loop r)) → I pre W →
      body.wpIn (Fence.wide.inRound l) 7 P (goesOn w.heap.size S I (pre ++ [x]) W) (a₁ x) W)
    (hdone : ∀ (D : Nat) (W : World), w.heap.size ≤ D → I xs W → W.heap[D]? = some (.deferred (some [])) → Q .normal { a with defers := { target := .collected D, args := #[] } :: a.defers } W) :
    (Code.rangeFunc g ps assign body).wp P Q a w :=
  (wpIn_wide (n := 9)).1 (wpIn_seqc rfl (by decide) hg trivial eg (hseq 8 (by decide)) hsb hn₀ hps I hI hS h0 a₁
    (fun l x W K hK => hassign l x W K hK)
    (fun l pre x rest W hl hx hr hi => hbody l pre x rest W hl hx hr hi) hdone)

theorem RngR.grown {W W' : World} {v : Value} {rs : List (Int × Int)} {row : Option Nat} (h : RngR W v rs) (hg : W.grownBy W' row) (hr : ∀ k cs t f, row = some k → W.heap[k]? = some (.cells cs t f) → t ≠ 237) : RngR W' v rs := by
  refine World.ownsRow.kept h hg ?_
  rcases h.2 with ⟨rfl, _⟩ | ⟨g, cap, cur, rfl, _, hgb, _⟩
  · exact .inl rfl
  · exact .inr (fun e => hr g _ _ _ e.symm hgb rfl)
theorem RelR.grown {W W' : World} {v : Value} {rs : List Re} {row : Option Nat} (h : RelR W v rs) (hg : W.grownBy W' row) (hr : ∀ k cs t f, row = some k → W.heap[k]? = some (.cells cs t f) → t ≠ 237 ∧ t ≠ 203) : RelR W' v rs := by
  obtain ⟨vs, h1, h2, h3⟩ := h
  refine ⟨vs, h1, h2.kept hg ?_, fun i hi => (h3 i hi).grown hg (fun k cs t f e hk => (hr k cs t f e hk).1)⟩
  rcases h2.2 with ⟨hn, _⟩ | ⟨g, cap, cur, hn, _, hgb, _⟩
  · rw [hn]; exact .inl rfl
  · rw [hn]; exact .inr (fun e => (hr g _ _ _ e.symm hgb).2 rfl)
/-- the inner loop: the part's own cell, the row of relations, their ranges, the iterator -/
structure PIn (w1 : World) (rb sb : Nat) (pre : List (List UInt8)) (W : World) (v : Value) (vs : List Value) : Prop where
  rel : W.heap[rb]? = some (Obj.cells #[v] 200)
  len : pre.length = vs.length
  row : W.ownsRow w1.heap.size 203 4 v pre.length (relCells (pre.map relOf) vs)
  rng : ∀ i, i < pre.length → RngR W (vs.getD i .nilIface) ((pre.map relOf).getD i reZ).rs
  it : ItAt sb W
  below : Below w1.heap.size w1 W
theorem PIn.own {w W W' : World} {rb sb B : Nat} {pre : List (List UInt8)} {v : Value} {vs : List Value} {row : Option Nat} (h : PIn w rb sb pre W v vs) (hB : w.heap.size ≤ B) (hg : W.grownBy W' row) (hr : ∀ r, row = some r → B ≤ r ∧ ∃ o : Obj, W.heap[r]? = some o ∧ o.isCells = false) : PIn w rb sb pre W' v vs := by
  have hr2 : ∀ r, row = some r → ∃ o : Obj, W.heap[r]? = some o ∧ o.isCells = false := fun r e => (hr r e).2
  refine ⟨heap_own h.rel hg hr2, h.len, row_own h.row hg hr2, fun i hi => (h.rng i hi).grown hg (fun k cs t f e hk => ?_), h.it.own hg hr2, below_grown h.below hg (fun r e => by have := (hr r e).1; omega) h.below.size⟩
  obtain ⟨o, ho, hc⟩ := hr2 k e
  rw [hk] at ho; cases ho; cases hc
theorem PIn.stores {w W : World} {rb sb : Nat} {pre : List (List UInt8)} {v u : Value} {vs : List Value} (h : PIn w rb sb pre W v vs) (hs : w.heap.size ≤ sb) (hb : rb ≠ sb) : PIn w rb sb pre (W.setCell ⟨sb, 0, none⟩ u) v vs := by
  obtain ⟨x, hx⟩ := h.it.b0
  refine ⟨(heap_setCell_other W ⟨sb, 0, none⟩ _ _ hb).trans h.rel, h.len, row_set h.row (h.it.ne h.row (by decide) (by decide) sb (by omega) (by omega)), fun i hi => (h.rng i hi).grown (keeps_set W sb 0 u) (fun k cs t f e hk => ?_), h.it.stores u, h.below.setCell (by show w.heap.size ≤ sb; omega) _⟩
  cases e
  rw [hx] at hk; cases hk; decide
theorem getD_app_lt {α : Type} (l : List α) (x d : α) (i : Nat) (h : i < l.length) : (l ++ [x]).getD i d = l.getD i d := by
  rw [List.getD_eq_getElem?_getD, List.getElem?_append_left h, ← List.getD_eq_getElem?_getD]
theorem getD_app_eq {α : Type} (l : List α) (x d : α) (i : Nat) (h : i = l.length) : (l ++ [x]).getD i d = x := by
  subst h
  rw [List.getD_eq_getElem?_getD, List.getElem?_append_right (Nat.le_refl _), Nat.sub_self]; rfl
/-- an inner round's end -/
theorem PIn.round {w W w9 wq : World} {rb sb B : Nat} {S : Nat → Prop} {pre : List (List UInt8)} {x : List UInt8} {v v' u : Value} {vs : List Value} {o : Obj} (h : PIn w rb sb pre W v vs)
    (hb9 : Below W.heap.size W w9) (hu : w9.ownsRow W.heap.size 237 2 u (relOf x).rs.length (rngCells (relOf x).rs)) (hg : (w9.alloc o).grownBy wq v.ownBlock) (hq : wq.ownsRow w.heap.size 203 4 v' (pre.length + 1) (relCells (pre.map relOf) vs ++ [.int .u8 (relOf x).op, .int .i64 (relOf x).md, .bool (relOf x).no, u]))
    (hrb : w.heap.size ≤ rb) (hrB : rb < B) (hsB : sb + 2 < B) (hBW : B ≤ W.heap.size) (hSl : ∀ k, S k → k < B) (hS1 : ∀ k, S k → k ≠ rb) (hS2 : ∀ k, S k → k < w.heap.size ∨ (sb ≤ k ∧ k ≤ sb + 2)) (hne : rb < sb ∨ sb + 2 < rb) :
    KeepsFrom B W (wq.setCell ⟨rb, 0, none⟩ v') ∧ Kept S W (wq.setCell ⟨rb, 0, none⟩ v') ∧ ∃ v vs, PIn w rb sb (pre ++ [x]) (wq.setCell ⟨rb, 0, none⟩ v') v vs := by
  have hk : ∀ k, k < W.heap.size → v.ownBlock ≠ some k → wq.heap[k]? = W.heap[k]? := by
    intro k hk1 hk2
    have h1 := hb9.size
    refine (hg.block k (by simp; omega) (fun e => hk2 e.symm)).trans ?_
    exact (Go.heap_alloc_old w9 o (by omega)).trans (hb9.block k hk1)
  have hsz : W.heap.size ≤ wq.heap.size := by
    have h1 := hb9.size; have h3 := hg.size
    simp at h3; omega
  have hrel := (hk rb (by omega) (own_ne h.row h.rel (by decide))).trans h.rel
  have hit := h.it.same (fun k h1 h2 => hk k (by omega) (h.it.ne h.row (by decide) (by decide) k h1 h2))
  have hbq : Below w.heap.size w wq := by
    refine below_grown ((h.below.trans (hb9.mono h.below.size)).alloc ?_ o) hg (fun k e => (h.row.lt k e).1) ?_
    · have h1 := hb9.size; have := h.below.size; omega
    · have h1 := hb9.size; have := h.below.size; simp; omega
  have hty : ∀ k cs t f, v.ownBlock = some k → (w9.alloc o).heap[k]? = some (.cells cs t f) → t ≠ 237 := by
    intro k cs t f e hk'
    rcases h.row.2 with ⟨rfl, _⟩ | ⟨g, cap, cur, rfl, _, hgb, _⟩
    · cases e
    · have : g = k := by simpa [Value.ownBlock] using e
      subst this
      have hgl := (Array.getElem?_eq_some_iff.1 hgb).1
      have := (Go.heap_alloc_old w9 o (by have := hb9.size; omega)).trans ((hb9.block g hgl).trans hgb)
      rw [this] at hk'; cases hk'; decide
  have hset : ∀ k cs t f, some rb = some k → wq.heap[k]? = some (.cells cs t f) → t ≠ 237 := by
    intro k cs t f e hk'
    cases e
    rw [hrel] at hk'; cases hk'; decide
  have hrng : ∀ (V : Value) (rs : List (Int × Int)), RngR w9 V rs → RngR (wq.setCell ⟨rb, 0, none⟩ v') V rs := by
    intro V rs hV
    have h1 : RngR (w9.alloc o) V rs := World.ownsRow.alloc hV o
    exact (h1.grown hg hty).grown (keeps_set wq rb 0 v') hset
  refine ⟨⟨by rw [size_setCell]; exact hsz, ?_⟩, ⟨by rw [size_setCell]; exact hsz, ?_⟩, v', vs ++ [u], ⟨Joins.block_setCell (i := 0) hrel v', ?_, ?_, ?_, ?_, hbq.setCell (by show w.heap.size ≤ rb; omega) _⟩⟩
  · intro k o' hBk hko hoc
    refine (heap_setCell_other wq ⟨rb, 0, none⟩ k _ (by show k ≠ rb; omega)).trans ?_
    refine (hk k (Array.getElem?_eq_some_iff.1 hko).1 (fun e => ?_)).trans hko
    rcases h.row.2 with ⟨rfl, _⟩ | ⟨g, cap, cur, rfl, _, hgb, _⟩
    · cases e
    · have : g = k := by simpa [Value.ownBlock] using e
      subst this
      rw [hgb] at hko; cases hko; cases hoc
  · intro k hSk
    refine (heap_setCell_other wq ⟨rb, 0, none⟩ k _ (hS1 k hSk)).trans ?_
    refine hk k (by have := hSl k hSk; omega) ?_
    rcases hS2 k hSk with hlt | ⟨h1, h2⟩
    · intro e; have := (h.row.lt k e).1; omega
    · exact h.it.ne h.row (by decide) (by decide) k h1 h2
  · simp only [List.length_append, List.length_cons, List.length_nil, h.len]
  · rw [List.length_append, List.map_append, List.map_cons, List.map_nil, relCells_app _ _ _ _ (by rw [List.length_map]; exact h.len)]
    exact row_set hq (own_ne hq hrel (by decide))
  · intro i hi
    rw [List.length_append] at hi
    simp only [List.length_cons, List.length_nil] at hi
    rw [List.map_append, List.map_cons, List.map_nil]
    by_cases hl : i < pre.length
    · rw [getD_app_lt vs u _ i (by rw [← h.len]; exact hl), getD_app_lt _ _ _ i (by rw [List.length_map]; exact hl)]
      exact hrng _ _ ((h.rng i hl).below hb9)
    · rw [getD_app_eq vs u _ i (by rw [← h.len]; omega), getD_app_eq _ _ _ i (by rw [List.length_map]; omega)]
      exact hrng _ _ (row_base hu (Nat.zero_le _))
  · exact hit.same (fun k h1 h2 => heap_setCell_other wq ⟨rb, 0, none⟩ k _ (by show k ≠ rb; omega))
theorem PIn.done {w W : World} {rb sb : Nat} {pre : List (List UInt8)} {v : Value} {vs : List Value} (h : PIn w rb sb pre W v vs) : RelR W v (pre.map relOf) := by
  refine ⟨vs, by rw [List.length_map]; exact h.len, ?_, fun i hi => h.rng i (by rw [List.length_map] at hi; exact hi)⟩
  rw [List.length_map]
  exact row_base h.row (Nat.zero_le _)
/-- the outer loop: the rule's own cell, the row of parts, the iterator -/
structure PO (w : World) (ob sb : Nat) (pre : List (List UInt8)) (W : World) (v : Value) (vs : List Value) : Prop where
  out : W.heap[ob]? = some (Obj.cells #[v] 174)
  len : pre.length = vs.length
  row : W.ownsRow w.heap.size 200 1 v pre.length vs
  rel : ∀ i, i < pre.length → RelR W (vs.getD i .nilIface) ((pre.map relsOf).getD i [])
  it : ItAt sb W
  below : Below w.heap.size w W
theorem PO.own {w W W' : World} {ob sb B : Nat} {pre : List (List UInt8)} {v : Value} {vs : List Value} {row : Option Nat} (h : PO w ob sb pre W v vs) (hB : w.heap.size ≤ B) (hg : W.grownBy W' row) (hr : ∀ r, row = some r → B ≤ r ∧ ∃ o : Obj, W.heap[r]? = some o ∧ o.isCells = false) : PO w ob sb pre W' v vs := by
  have hr2 : ∀ r, row = some r → ∃ o : Obj, W.heap[r]? = some o ∧ o.isCells = false := fun r e => (hr r e).2
  refine ⟨heap_own h.out hg hr2, h.len, row_own h.row hg hr2, fun i hi => (h.rel i hi).grown hg (fun k cs t f e hk => ?_), h.it.own hg hr2, below_grown h.below hg (fun r e => by have := (hr r e).1; omega) h.below.size⟩
  obtain ⟨o, ho, hc⟩ := hr2 k e
  rw [hk] at ho; cases ho; cases hc
theorem PO.stores {w W : World} {ob sb : Nat} {pre : List (List UInt8)} {v u : Value} {vs : List Value} (h : PO w ob sb pre W v vs) (hs : w.heap.size ≤ sb) (hb : ob ≠ sb) : PO w ob sb pre (W.setCell ⟨sb, 0, none⟩ u) v vs := by
  obtain ⟨x, hx⟩ := h.it.b0
  refine ⟨(heap_setCell_other W ⟨sb, 0, none⟩ _ _ hb).trans h.out, h.len, row_set h.row (h.it.ne h.row (by decide) (by decide) sb (by omega) (by omega)), fun i hi => (h.rel i hi).grown (keeps_set W sb 0 u) (fun k cs t f e hk => ?_), h.it.stores u, h.below.setCell (by show w.heap.size ≤ sb; omega) _⟩
  cases e
  rw [hx] at hk; cases hk; decide
theorem PO.round {w W w9 wq : World} {ob sb B : Nat} {S : Nat → Prop} {pre : List (List UInt8)} {x : List UInt8} {v v' u : Value} {vs : List Value} {o : Obj} (h : PO w ob sb pre W v vs)
    (hb9 : Below W.heap.size W w9) (hu : RelR w9 u (relsOf x)) (hg : (w9.alloc o).grownBy wq v.ownBlock) (hq : wq.ownsRow w.heap.size 200 1 v' (pre.length + 1) (vs ++ [u]))
    (hrb : w.heap.size ≤ ob) (hrB : ob < B) (hsB : sb + 2 < B) (hBW : B ≤ W.heap.size) (hSl : ∀ k, S k → k < B) (hS1 : ∀ k, S k → k ≠ ob) (hS2 : ∀ k, S k → k < w.heap.size ∨ (sb ≤ k ∧ k ≤ sb + 2)) (hne : ob < sb ∨ sb + 2 < ob) :
    KeepsFrom B W (wq.setCell ⟨ob, 0, none⟩ v') ∧ Kept S W (wq.setCell ⟨ob, 0, none⟩ v') ∧ ∃ v vs, PO w ob sb (pre ++ [x]) (wq.setCell ⟨ob, 0, none⟩ v') v vs := by
  have hk : ∀ k, k < W.heap.size → v.ownBlock ≠ some k → wq.heap[k]? = W.heap[k]? := by
    intro k hk1 hk2
    have h1 := hb9.size
    refine (hg.block k (by simp; omega) (fun e => hk2 e.symm)).trans ?_
    exact (Go.heap_alloc_old w9 o (by omega)).trans (hb9.block k hk1)
  have hsz : W.heap.size ≤ wq.heap.size := by
    have h1 := hb9.size; have h3 := hg.size
    simp at h3; omega
  have hrel := (hk ob (by omega) (own_ne h.row h.out (by decide))).trans h.out
  have hit := h.it.same (fun k h1 h2 => hk k (by omega) (h.it.ne h.row (by decide) (by decide) k h1 h2))
  have hbq : Below w.heap.size w wq := by
    refine below_grown ((h.below.trans (hb9.mono h.below.size)).alloc ?_ o) hg (fun k e => (h.row.lt k e).1) ?_
    · have h1 := hb9.size; have := h.below.size; omega
    · have h1 := hb9.size; have := h.below.size; simp; omega
  have hty : ∀ k cs t f, v.ownBlock = some k → (w9.alloc o).heap[k]? = some (.cells cs t f) → t ≠ 237 ∧ t ≠ 203 := by
    intro k cs t f e hk'
    rcases h.row.2 with ⟨rfl, _⟩ | ⟨g, cap, cur, rfl, _, hgb, _⟩
    · cases e
    · have : g = k := by simpa [Value.ownBlock] using e
      subst this
      have hgl := (Array.getElem?_eq_some_iff.1 hgb).1
      have := (Go.heap_alloc_old w9 o (by have := hb9.size; omega)).trans ((hb9.block g hgl).trans hgb)
      rw [this] at hk'; cases hk'; decide
  have hset : ∀ k cs t f, some ob = some k → wq.heap[k]? = some (.cells cs t f) → t ≠ 237 ∧ t ≠ 203 := by
    intro k cs t f e hk'
    cases e
    rw [hrel] at hk'; cases hk'; decide
  have hrng : ∀ (V : Value) (rs : List Re), RelR w9 V rs → RelR (wq.setCell ⟨ob, 0, none⟩ v') V rs := by
    intro V rs hV
    have h1 : RelR (w9.alloc o) V rs := hV.grown (World.grownBy_alloc w9 o none) (fun k cs t f e _ => by cases e)
    exact (h1.grown hg hty).grown (keeps_set wq ob 0 v') hset
  refine ⟨⟨by rw [size_setCell]; exact hsz, ?_⟩, ⟨by rw [size_setCell]; exact hsz, ?_⟩, v', vs ++ [u], ⟨Joins.block_setCell (i := 0) hrel v', ?_, ?_, ?_, ?_, hbq.setCell (by show w.heap.size ≤ ob; omega) _⟩⟩
  · intro k o' hBk hko hoc
    refine (heap_setCell_other wq ⟨ob, 0, none⟩ k _ (by show k ≠ ob; omega)).trans ?_
    refine (hk k (Array.getElem?_eq_some_iff.1 hko).1 (fun e => ?_)).trans hko
    rcases h.row.2 with ⟨rfl, _⟩ | ⟨g, cap, cur, rfl, _, hgb, _⟩
    · cases e
    · have : g = k := by simpa [Value.ownBlock] using e
      subst this
      rw [hgb] at hko; cases hko; cases hoc
  · intro k hSk
    refine (heap_setCell_other wq ⟨ob, 0, none⟩ k _ (hS1 k hSk)).trans ?_
    refine hk k (by have := hSl k hSk; omega) ?_
    rcases hS2 k hSk with hlt | ⟨h1, h2⟩
    · intro e; have := (h.row.lt k e).1; omega
    · exact h.it.ne h.row (by decide) (by decide) k h1 h2
  · simp only [List.length_append, List.length_cons, List.length_nil, h.len]
  · rw [List.length_append]
    exact row_set hq (own_ne hq hrel (by decide))
  · intro i hi
    rw [List.length_append] at hi
    simp only [List.length_cons, List.length_nil] at hi
    rw [List.map_append, List.map_cons, List.map_nil]
    by_cases hl : i < pre.length
    · rw [getD_app_lt vs u _ i (by rw [← h.len]; exact hl), getD_app_lt _ _ _ i (by rw [List.length_map]; exact hl)]
      exact hrng _ _ ((h.rel i hl).below hb9)
    · rw [getD_app_eq vs u _ i (by rw [← h.len]; omega), getD_app_eq _ _ _ i (by rw [List.length_map]; omega)]
      exact hrng _ _ hu
  · exact hit.same (fun k h1 h2 => heap_setCell_other wq ⟨ob, 0, none⟩ k _ (by show k ≠ ob; omega))
theorem PO.done {w W : World} {ob sb : Nat} {pre : List (List UInt8)} {v : Value} {vs : List Value} (h : PO w ob sb pre W v vs) : RuleR W v (pre.map relsOf) := by
  refine ⟨vs, by rw [List.length_map]; exact h.len, ?_, fun i hi => h.rel i (by rw [List.length_map] at hi; exact hi)⟩
  rw [List.length_map]
  exact row_base h.row (Nat.zero_le _)
theorem infoRel : (Tryz.prog.info? 203).map (fun i => (i.zero, i.size, i.bytes)) = some (some (.agg #[.int .u8 0, .int .i64 0, .bool false, .slice none 0 0]), 4, 48) := by kernel_rfl
theorem infoPart : (Tryz.prog.info? 200).map (fun i => (i.zero, i.size, i.bytes)) = some (some (.slice none 0 0), 1, 24) := by kernel_rfl
/-- one relation more, at the operation -/
theorem rel_step {w9 wm : World} {rb base n : Nat} {v v' : Value} {xs : List Value} {f : Nat × Nat} (op md : Int) (no : Bool) (ua : Option Addr) (un uc : Nat) (hown : w9.ownsRow base 203 4 v n xs) (hB : base ≤ w9.heap.size) (hb : Below w9.heap.size w9 wm) (hk : wm.heap[rb]? = some (.cells #[v'] 200 f)) (hn : n ≤ 1000000) :
    ∃ g cap wq, Sem.run Tryz.prog (apd #[200, 200] 200 #[v, .slice (some ⟨wm.heap.size, 0, none⟩) 1 1]) (wm.alloc (.cells #[.int .u8 op, .int .i64 md, .bool no, .slice ua un uc] 203)) = .ok (.slice (some ⟨g, 0, none⟩) (n + 1) cap) wq ∧
      wq.ownsRow base 203 4 (.slice (some ⟨g, 0, none⟩) (n + 1) cap) (n + 1) (xs ++ [.int .u8 op, .int .i64 md, .bool no, .slice ua un uc]) ∧ (wm.alloc (.cells #[.int .u8 op, .int .i64 md, .bool no, .slice ua un uc] 203)).grownBy wq v.ownBlock ∧ wq.heap[rb]? = some (.cells #[v'] 200 f) := by
  obtain ⟨i0, hi0, hz0', hz1', hz2'⟩ := info_parts infoRel
  have ho := (owns_below hown hb).alloc (.cells #[.int .u8 op, .int .i64 md, .bool no, .slice ua un uc] 203)
  have hl : rb < wm.heap.size := (Array.getElem?_eq_some_iff.1 hk).1
  have hk2 := (Go.heap_alloc_old wm (.cells #[.int .u8 op, .int .i64 md, .bool no, .slice ua un uc] 203) hl).trans hk
  obtain ⟨g, cap, wq, hrun, hoq, hgq, _, _⟩ := run_append_lies (P := Tryz.prog) (w := wm.alloc (.cells #[.int .u8 op, .int .i64 md, .bool no, .slice ua un uc] 203)) 200 200 base 203 i0 _ 4 48 Tryz.underlying200 hi0 hz0' hz1' hz2' rfl (by decide) v n _ ho ⟨wm.heap.size, 0, none⟩ 1 1 [.int .u8 op, .int .i64 md, .bool no, .slice ua un uc] rfl (World.news_of_block (Go.heap_alloc_new wm _)) (by simp [Value.oneCell']) (by decide) (by unfold maxLen; omega) (by omega) (by have := hb.size; simp; omega) _ rfl
  exact ⟨g, cap, wq, hrun, hoq, hgq, (hgq.block rb (Array.getElem?_eq_some_iff.1 hk2).1 (own_ne ho hk2 (by decide)).symm).trans hk2⟩
/-- one part more, at the operation -/
theorem part_step {w9 wm : World} {rb base n : Nat} {v v' : Value} {xs : List Value} {f : Nat × Nat} (ua : Option Addr) (un uc : Nat) (hown : w9.ownsRow base 200 1 v n xs) (hB : base ≤ w9.heap.size) (hb : Below w9.heap.size w9 wm) (hk : wm.heap[rb]? = some (.cells #[v'] 174 f)) (hn : n ≤ 1000000) :
    ∃ g cap wq, Sem.run Tryz.prog (apd #[174, 174] 174 #[v, .slice (some ⟨wm.heap.size, 0, none⟩) 1 1]) (wm.alloc (.cells #[.slice ua un uc] 200)) = .ok (.slice (some ⟨g, 0, none⟩) (n + 1) cap) wq ∧
      wq.ownsRow base 200 1 (.slice (some ⟨g, 0, none⟩) (n + 1) cap) (n + 1) (xs ++ [.slice ua un uc]) ∧ (wm.alloc (.cells #[.slice ua un uc] 200)).grownBy wq v.ownBlock ∧ wq.heap[rb]? = some (.cells #[v'] 174 f) := by
  obtain ⟨i0, hi0, hz0', hz1', hz2'⟩ := info_parts infoPart
  have ho := (owns_below hown hb).alloc (.cells #[.slice ua un uc] 200)
  have hl : rb < wm.heap.size := (Array.getElem?_eq_some_iff.1 hk).1
  have hk2 := (Go.heap_alloc_old wm (.cells #[.slice ua un uc] 200) hl).trans hk
  obtain ⟨g, cap, wq, hrun, hoq, hgq, _, _⟩ := run_append_lies (P := Tryz.prog) (w := wm.alloc (.cells #[.slice ua un uc] 200)) 174 174 base 200 i0 _ 1 24 Tryz.underlying174 hi0 hz0' hz1' hz2' rfl (by decide) v n _ ho ⟨wm.heap.size, 0, none⟩ 1 1 [.slice ua un uc] rfl (World.news_of_block (Go.heap_alloc_new wm _)) (by simp [Value.oneCell']) (by decide) (by unfold maxLen; omega) (by omega) (by have := hb.size; simp; omega) _ rfl
  exact ⟨g, cap, wq, hrun, hoq, hgq, (hgq.block rb (Array.getElem?_eq_some_iff.1 hk2).1 (own_ne ho hk2 (by decide)).symm).trans hk2⟩
end Go.Proofs.YtnefcilopgcdpaaGreatDoor
