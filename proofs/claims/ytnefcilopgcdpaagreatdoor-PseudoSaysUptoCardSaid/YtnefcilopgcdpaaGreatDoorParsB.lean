/-
  rule.parsed, what its loop keeps; one range more.
-/
import Derived.Test.YtnefcilopgcdpaaGreatDoorParsA
namespace Go.Proofs.YtnefcilopgcdpaaGreatDoor
open Go.RowKit Go.Shelf
def apd (a : Array TypeId) (t : TypeId) (v : Array Value) : Sem Value := Builtin.append_ a t v
theorem apd_at (a : Array TypeId) (t : TypeId) (v : Array Value) : Builtin.append_ a t v = apd a t v := rfl
attribute [local go_sem] Oper.semAt_some

theorem pieces_length {sep : List UInt8} (h : sep ≠ []) : ∀ (n : Nat) (s : List UInt8), s.length ≤ n → (pieces sep n s).length ≤ s.length + 1
  | 0, s, _ => by simp [pieces]
  | n + 1, s, hs => by
    unfold pieces
    split
    · next hi =>
      have hr := Lib.index_room s sep hi
      have hl : 0 < sep.length := List.length_pos_iff.2 h
      have := pieces_length h n (s.drop ((Lib.index s sep).toNat + sep.length)) (by rw [List.length_drop]; omega)
      rw [List.length_drop] at this
      simp only [List.length_cons]
      omega
    · simp
theorem split_length {sep : List UInt8} (h : sep ≠ []) (s : List UInt8) : (split sep s).length ≤ s.length + 1 := pieces_length h _ s (Nat.le_refl _)
/-! ### what a loop keeps -/
theorem heap_own {W W' : World} {row : Option Nat} {k : Nat} {cs : Array Value} {t : TypeId} {f : Nat × Nat} (hk : W.heap[k]? = some (.cells cs t f)) (hg : W.grownBy W' row) (hr : ∀ r, row = some r → ∃ o : Obj, W.heap[r]? = some o ∧ o.isCells = false) : W'.heap[k]? = some (.cells cs t f) := by
  refine (hg.block k (Array.getElem?_eq_some_iff.1 hk).1 (fun e => ?_)).trans hk
  obtain ⟨o, ho, hc⟩ := hr k e.symm
  rw [hk] at ho; cases ho; cases hc
theorem row_own {W W' : World} {row : Option Nat} {base size n : Nat} {e : TypeId} {v : Value} {xs : List Value} (h : W.ownsRow base e size v n xs) (hg : W.grownBy W' row) (hr : ∀ r, row = some r → ∃ o : Obj, W.heap[r]? = some o ∧ o.isCells = false) : W'.ownsRow base e size v n xs := by
  refine h.kept hg ?_
  rcases h.2 with ⟨rfl, _⟩ | ⟨g, cap, cur, rfl, _, hgb, _⟩
  · exact .inl rfl
  · refine .inr (fun e => ?_)
    obtain ⟨o, ho, hc⟩ := hr g e.symm
    rw [hgb] at ho; cases ho; cases hc
theorem row_set {W : World} {base size n k i : Nat} {e : TypeId} {v u : Value} {xs : List Value} (h : W.ownsRow base e size v n xs) (hne : v.ownBlock ≠ some k) : (W.setCell ⟨k, i, none⟩ u).ownsRow base e size v n xs :=
  h.kept (row := some k) (keeps_set W k i u) (.inr hne)
/-- the iterator's own blocks -/
structure ItAt (sb : Nat) (W : World) : Prop where
  b0 : ∃ u, W.heap[sb]? = some (Obj.cells #[u] 9)
  b1 : ∃ u, W.heap[sb + 1]? = some (Obj.cells #[u] 9)
  b2 : ∃ u, W.heap[sb + 2]? = some (Obj.cells #[u] 3)
theorem ItAt.own {W W' : World} {sb : Nat} {row : Option Nat} (h : ItAt sb W) (hg : W.grownBy W' row) (hr : ∀ r, row = some r → ∃ o : Obj, W.heap[r]? = some o ∧ o.isCells = false) : ItAt sb W' := by
  obtain ⟨⟨a, ha⟩, ⟨b, hb⟩, ⟨c, hc⟩⟩ := h
  exact ⟨⟨a, heap_own ha hg hr⟩, ⟨b, heap_own hb hg hr⟩, ⟨c, heap_own hc hg hr⟩⟩
theorem ItAt.stores {W : World} {sb : Nat} (h : ItAt sb W) (u : Value) : ItAt sb (W.setCell ⟨sb, 0, none⟩ u) := by
  obtain ⟨⟨a, ha⟩, ⟨b, hb⟩, ⟨c, hc⟩⟩ := h
  exact ⟨⟨u, Joins.block_setCell (i := 0) ha u⟩, ⟨b, (heap_setCell_other W ⟨sb, 0, none⟩ _ _ (by show sb + 1 ≠ sb; omega)).trans hb⟩, ⟨c, (heap_setCell_other W ⟨sb, 0, none⟩ _ _ (by show sb + 2 ≠ sb; omega)).trans hc⟩⟩
theorem ItAt.same {W W' : World} {sb : Nat} (h : ItAt sb W) (hs : ∀ k, sb ≤ k → k ≤ sb + 2 → W'.heap[k]? = W.heap[k]?) : ItAt sb W' := by
  obtain ⟨⟨a, ha⟩, ⟨b, hb⟩, ⟨c, hc⟩⟩ := h
  exact ⟨⟨a, (hs _ (by omega) (by omega)).trans ha⟩, ⟨b, (hs _ (by omega) (by omega)).trans hb⟩, ⟨c, (hs _ (by omega) (by omega)).trans hc⟩⟩
theorem ItAt.ne {W : World} {sb base size n : Nat} {e : TypeId} {v : Value} {xs : List Value} (h : ItAt sb W) (hr : W.ownsRow base e size v n xs) (h1 : 9 ≠ e) (h2 : 3 ≠ e) : ∀ k, sb ≤ k → k ≤ sb + 2 → v.ownBlock ≠ some k := by
  obtain ⟨⟨a, ha⟩, ⟨b, hb⟩, ⟨c, hc⟩⟩ := h
  intro k hk1 hk2
  rcases (show k = sb ∨ k = sb + 1 ∨ k = sb + 2 by omega) with rfl | rfl | rfl
  · exact own_ne hr ha h1
  · exact own_ne hr hb h1
  · exact own_ne hr hc h2
theorem ItAt.seq (w : World) (s sep : ByteArray) : ItAt w.heap.size (seqW w s sep) := by
  refine ⟨⟨.string s, (Go.heap_alloc_old _ _ (by simp; omega)).trans ((Go.heap_alloc_old _ _ (by simp)).trans (Go.heap_alloc_new w _))⟩, ⟨.string sep, ?_⟩, ⟨.int .i64 0, ?_⟩⟩
  · refine (Go.heap_alloc_old _ _ (by simp)).trans ?_
    have := Go.heap_alloc_new (w.alloc (.cells #[.string s] 9)) (.cells #[.string sep] 9)
    rwa [show (w.alloc (.cells #[.string s] 9)).heap.size = w.heap.size + 1 by simp] at this
  · have := Go.heap_alloc_new ((w.alloc (.cells #[.string s] 9)).alloc (.cells #[.string sep] 9)) (.cells #[.int .i64 0] 3)
    rwa [show ((w.alloc (.cells #[.string s] 9)).alloc (.cells #[.string sep] 9)).heap.size = w.heap.size + 2 by simp] at this
/-- the loop over a relation's ranges: its own block, the row of ranges, the result's block, the iterator's -/
structure PI (w : World) (rb sb : Nat) (op md : Int) (ng : Bool) (pre : List (List UInt8)) (W : World) (v : Value) : Prop where
  rel : W.heap[rb]? = some (Obj.cells #[Value.int IntKind.u8 op, Value.int IntKind.i64 md, Value.bool ng, v] 203)
  row : W.ownsRow w.heap.size 237 2 v pre.length (rngCells (pre.map rngOf))
  res : W.heap[w.heap.size]? = some (Obj.cells #[Value.int IntKind.u8 0, Value.int IntKind.i64 0, Value.bool false, Value.slice none 0 0] 203)
  it : ItAt sb W
  below : Below w.heap.size w W
theorem PI.own {w W W' : World} {rb sb B : Nat} {op md : Int} {ng : Bool} {pre : List (List UInt8)} {v : Value} {row : Option Nat} (h : PI w rb sb op md ng pre W v) (hB : w.heap.size ≤ B) (hg : W.grownBy W' row) (hr : ∀ r, row = some r → B ≤ r ∧ ∃ o : Obj, W.heap[r]? = some o ∧ o.isCells = false) : PI w rb sb op md ng pre W' v := by
  have hr2 : ∀ r, row = some r → ∃ o : Obj, W.heap[r]? = some o ∧ o.isCells = false := fun r e => (hr r e).2
  exact ⟨heap_own h.rel hg hr2, row_own h.row hg hr2, heap_own h.res hg hr2, h.it.own hg hr2, below_grown h.below hg (fun r e => by have := (hr r e).1; omega) h.below.size⟩
theorem PI.stores {w W : World} {rb sb : Nat} {op md : Int} {ng : Bool} {pre : List (List UInt8)} {v u : Value} (h : PI w rb sb op md ng pre W v) (hs : w.heap.size < sb) (hb : rb ≠ sb) : PI w rb sb op md ng pre (W.setCell ⟨sb, 0, none⟩ u) v := by
  refine ⟨?_, row_set h.row (h.it.ne h.row (by decide) (by decide) sb (by omega) (by omega)), ?_, h.it.stores u, h.below.setCell (by show w.heap.size ≤ sb; omega) _⟩
  · exact (heap_setCell_other W ⟨sb, 0, none⟩ _ _ hb).trans h.rel
  · exact (heap_setCell_other W ⟨sb, 0, none⟩ _ _ (by show w.heap.size ≠ sb; omega)).trans h.res
/-- a round's end -/
theorem PI.round {w W w9 wm wq : World} {rb sb B : Nat} {S : Nat → Prop} {op md : Int} {ng : Bool} {pre : List (List UInt8)} {x : List UInt8} {v v' : Value} {p : Int × Int} {o : Obj} (h : PI w rb sb op md ng pre W v)
    (hp : rngOf x = p) (hb9 : Below W.heap.size W w9) (hbm : Below w9.heap.size w9 wm) (hg : (wm.alloc o).grownBy wq v.ownBlock) (hq : wq.ownsRow w.heap.size 237 2 v' (pre.length + 1) (rngCells (pre.map rngOf ++ [p])))
    (hrb : w.heap.size < rb) (hrB : rb < B) (hsB : sb + 2 < B) (hBW : B ≤ W.heap.size) (hSl : ∀ k, S k → k < B) (hS1 : ∀ k, S k → k ≠ rb) (hS2 : ∀ k, S k → k < w.heap.size ∨ (sb ≤ k ∧ k ≤ sb + 2)) (hne : rb < sb ∨ sb + 2 < rb) :
    KeepsFrom B W (wq.setCell ⟨rb, 3, none⟩ v') ∧ Kept S W (wq.setCell ⟨rb, 3, none⟩ v') ∧ ∃ v, PI w rb sb op md ng (pre ++ [x]) (wq.setCell ⟨rb, 3, none⟩ v') v := by
  have hk : ∀ k, k < W.heap.size → v.ownBlock ≠ some k → wq.heap[k]? = W.heap[k]? := by
    intro k hk1 hk2
    have h1 := hb9.size; have h2 := hbm.size
    refine (hg.block k (by simp; omega) (fun e => hk2 e.symm)).trans ?_
    exact (Go.heap_alloc_old wm o (by omega)).trans ((hbm.block k (by omega)).trans (hb9.block k hk1))
  have hsz : W.heap.size ≤ wq.heap.size := by
    have h1 := hb9.size; have h2 := hbm.size; have h3 := hg.size
    simp at h3; omega
  have hrel := (hk rb (by omega) (own_ne h.row h.rel (by decide))).trans h.rel
  have hres := (hk w.heap.size (by omega) (own_ne h.row h.res (by decide))).trans h.res
  have hit := h.it.same (fun k h1 h2 => hk k (by omega) (h.it.ne h.row (by decide) (by decide) k h1 h2))
  have hbq : Below w.heap.size w wq := by
    refine below_grown ((h.below.trans ((hb9.trans (hbm.mono hb9.size)).mono h.below.size)).alloc ?_ o) hg (fun k e => (h.row.lt k e).1) ?_
    · have h1 := hb9.size; have h2 := hbm.size; omega
    · have h1 := hb9.size; have h2 := hbm.size; simp; omega
  refine ⟨⟨by rw [size_setCell]; exact hsz, ?_⟩, ⟨by rw [size_setCell]; exact hsz, ?_⟩, v', ⟨Joins.block_setCell (i := 3) hrel v', ?_, ?_, ?_, hbq.setCell (by show w.heap.size ≤ rb; omega) _⟩⟩
  · intro k o' hBk hko hoc
    refine (heap_setCell_other wq ⟨rb, 3, none⟩ k _ (by show k ≠ rb; omega)).trans ?_
    refine (hk k (Array.getElem?_eq_some_iff.1 hko).1 (fun e => ?_)).trans hko
    rcases h.row.2 with ⟨rfl, _⟩ | ⟨g, cap, cur, rfl, _, hgb, _⟩
    · cases e
    · have : g = k := by simpa [Value.ownBlock] using e
      subst this
      rw [hgb] at hko; cases hko; cases hoc
  · intro k hSk
    refine (heap_setCell_other wq ⟨rb, 3, none⟩ k _ (hS1 k hSk)).trans ?_
    refine hk k (by have := hSl k hSk; omega) ?_
    rcases hS2 k hSk with hlt | ⟨h1, h2⟩
    · intro e; have := (h.row.lt k e).1; omega
    · exact h.it.ne h.row (by decide) (by decide) k h1 h2
  · rw [List.length_append, List.map_append, List.map_cons, List.map_nil, hp]
    exact row_set hq (own_ne hq hrel (by decide))
  · exact (heap_setCell_other wq ⟨rb, 3, none⟩ _ _ (by show w.heap.size ≠ rb; omega)).trans hres
  · exact hit.same (fun k h1 h2 => heap_setCell_other wq ⟨rb, 3, none⟩ k _ (by show k ≠ rb; omega))
theorem rng_step {w w9 wm : World} {rb : Nat} {v : Value} {cs : Array Value} {f : Nat × Nat} {pre : List (Int × Int)} (p : Int × Int) (hown : w9.ownsRow w.heap.size 237 2 v pre.length (rngCells pre)) (hB9 : w.heap.size ≤ w9.heap.size)
    (hb : Below w9.heap.size w9 wm) (hk : wm.heap[rb]? = some (.cells cs 203 f)) (hpl : pre.length ≤ 100001) :
    ∃ g cap wq, Sem.run Tryz.prog (apd #[201, 201] 201 #[v, .slice (some ⟨wm.heap.size, 0, none⟩) 1 1]) (wm.alloc (.cells #[.int .i64 p.1, .int .i64 p.2] 237)) = .ok (.slice (some ⟨g, 0, none⟩) (pre.length + 1) cap) wq ∧
      wq.ownsRow w.heap.size 237 2 (.slice (some ⟨g, 0, none⟩) (pre.length + 1) cap) (pre.length + 1) (rngCells (pre ++ [p])) ∧ (wm.alloc (.cells #[.int .i64 p.1, .int .i64 p.2] 237)).grownBy wq v.ownBlock ∧ wq.heap[rb]? = some (.cells cs 203 f) := by
  obtain ⟨i0, hi0, hz0', hz1', hz2'⟩ := info_parts infoRng
  have ho := (owns_below hown hb).alloc (.cells #[.int .i64 p.1, .int .i64 p.2] 237)
  have hl : rb < wm.heap.size := (Array.getElem?_eq_some_iff.1 hk).1
  have hk2 := (Go.heap_alloc_old wm (.cells #[.int .i64 p.1, .int .i64 p.2] 237) hl).trans hk
  obtain ⟨g, cap, wq, hrun, hoq, hgq, _, _⟩ := run_append_lies (P := Tryz.prog) (w := wm.alloc (.cells #[.int .i64 p.1, .int .i64 p.2] 237)) 201 201 w.heap.size 237 i0 _ 2 16 Tryz.underlying201 hi0 hz0' hz1' hz2' rfl (by decide) v pre.length _ ho ⟨wm.heap.size, 0, none⟩ 1 1 [.int .i64 p.1, .int .i64 p.2] rfl (World.news_of_block (Go.heap_alloc_new wm _)) (by simp [Value.oneCell']) (by decide) (by unfold maxLen; omega) (by omega) (by have := hb.size; simp; omega) _ rfl
  refine ⟨g, cap, wq, hrun, by rw [rngCells_app]; exact hoq, hgq, (hgq.block rb (Array.getElem?_eq_some_iff.1 hk2).1 (own_ne ho hk2 (by decide)).symm).trans hk2⟩
end Go.Proofs.YtnefcilopgcdpaaGreatDoor
