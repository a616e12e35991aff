/-
  names.needs, plain and in memory: a row of needs behind a cell; one need more.
  names.needs.add: one need more.
-/
import Derived.Test.YtnefcilopgcdpaaGreatDoorPsay
import Derived.Test.YtnefcilopgcdpaaGreatDoorIdxF
import Derived.Test.YtnefcilopgcdpaaGreatDoorParsC
import Derived.Test.YtnefcilopgcdpaaGreatDoorParsB
import Derived.Deep.Cut
import Derived.Deep.DeepCutAuto
import Derived.Deep.RegionWith
import Derived.Test.YtnefcilopgcdpaaGreatDoorDecB
namespace Go.Proofs.YtnefcilopgcdpaaGreatDoor
open Go.RowKit Ms

def needCells : List Need → List Value
  | [] => []
  | n :: l => .string ⟨n.nm.toArray⟩ :: .bool n.num :: .bool n.text :: needCells l
def nz : Need := ⟨[], false, false⟩
theorem needCells_app : ∀ a b : List Need, needCells (a ++ b) = needCells a ++ needCells b
  | [], _ => rfl
  | n :: a, b => by simp [needCells, needCells_app a b]
theorem needCells_len : ∀ l : List Need, (needCells l).length = l.length * 3
  | [] => rfl
  | n :: l => by simp only [needCells, List.length_cons, needCells_len l]; omega
theorem needCells_at : ∀ (l : List Need) (i : Nat), i < l.length → (needCells l)[i * 3]? = some (.string ⟨(l.getD i nz).nm.toArray⟩) ∧ (needCells l)[i * 3 + 1]? = some (.bool (l.getD i nz).num) ∧ (needCells l)[i * 3 + 2]? = some (.bool (l.getD i nz).text)
  | [], i, h => by simp at h
  | n :: l, 0, _ => ⟨rfl, rfl, rfl⟩
  | n :: l, i + 1, h => by
    have := needCells_at l i (by simpa using h)
    rw [show (i + 1) * 3 = i * 3 + 1 + 1 + 1 by omega]
    exact this
theorem needCells_set (f : Need → Need) (hf : ∀ n, (f n).nm = n.nm) : ∀ (l : List Need) (i : Nat), i < l.length → ((needCells l).set (i * 3 + 1) (.bool (f (l.getD i nz)).num)).set (i * 3 + 2) (.bool (f (l.getD i nz)).text) = needCells (l.modify i f)
  | [], i, h => by simp at h
  | n :: l, 0, _ => by simp [needCells, hf]
  | n :: l, i + 1, h => by
    have := needCells_set f hf l i (by simpa using h)
    rw [show (i + 1) * 3 = i * 3 + 3 by omega]
    simp only [List.modify_succ_cons, needCells]
    rw [← this]
    rfl
theorem addAt_nm (k : Int) (n : Need) : (addAt k n).nm = n.nm := rfl
theorem first_list (x : List UInt8) : ∀ (l : List Need) (i : Nat) (q : Nat → Bool), (∀ j, j < l.length → q (i + j) = ((l.getD j nz).nm == x)) →
    firstI q i l.length = if l.any (fun n => n.nm == x) = true then ((i + l.findIdx (fun n => n.nm == x) : Nat) : Int) else -1
  | [], _, _, _ => rfl
  | n :: l, i, q, h => by
    have h0 := h 0 (by simp)
    rw [show i + 0 = i by omega] at h0
    have h0' : q i = (n.nm == x) := h0
    show (if q i = true then (i : Int) else firstI q (i + 1) l.length) = _
    rw [h0', first_list x l (i + 1) q (fun j hj => by
      have := h (j + 1) (by simp only [List.length_cons]; omega)
      rw [show i + 1 + j = i + (j + 1) by omega, this]; rfl)]
    cases hn : (n.nm == x) with
    | true => simp [List.findIdx_cons, hn]
    | false =>
      simp only [List.any_cons, hn, Bool.false_or, List.findIdx_cons, cond_false, Bool.false_eq_true, if_false]
      split
      · congr 1; omega
      · rfl
theorem find_lt (x : List UInt8) (l : List Need) (h : l.any (fun n => n.nm == x) = true) : l.findIdx (fun n => n.nm == x) < l.length := by
  rw [List.findIdx_lt_length]
  simpa using h
theorem findIdx_new (x : List UInt8) : ∀ l : List Need, l.any (fun n => n.nm == x) = false → (l ++ [({ nm := x, num := false, text := false } : Need)]).findIdx (fun n : Need => n.nm == x) = l.length
  | [], _ => by simp [List.findIdx_cons]
  | n :: l, h => by
    simp only [List.any_cons, Bool.or_eq_false_iff] at h
    simp only [List.cons_append, List.findIdx_cons, h.1, cond_false, List.length_cons]
    rw [findIdx_new x l h.2]
theorem addNew_idx (l : List Need) (x : List UInt8) : (addNew l x).findIdx (fun n => n.nm == x) = (if l.any (fun n => n.nm == x) = true then l.findIdx (fun n => n.nm == x) else l.length) ∧ (addNew l x).findIdx (fun n => n.nm == x) < (addNew l x).length := by
  unfold addNew
  cases h : l.any (fun n => n.nm == x) with
  | true => simp only [if_true]; exact ⟨trivial, find_lt x l h⟩
  | false =>
    simp only [Bool.false_eq_true, if_false]
    rw [findIdx_new x l h]
    simp
theorem row_put {W : World} {b size n g cap j : Nat} {e : TypeId} {xs : List Value} (h : W.ownsRow b e size (.slice (some ⟨g, 0, none⟩) n cap) n xs) (u : Value) : (W.setCell ⟨g, j, none⟩ u).ownsRow b e size (.slice (some ⟨g, 0, none⟩) n cap) n (xs.set j u) := by
  obtain ⟨h1, h2⟩ := h
  rcases h2 with ⟨he, _⟩ | ⟨g', cap', cur, he, hb, hg, hn, hc, hs, ht⟩
  · cases he
  · simp only [Value.slice.injEq, Option.some.injEq, Addr.mk.injEq, and_true, true_and] at he
    obtain ⟨rfl, rfl⟩ := he
    refine ⟨by rw [List.length_set]; exact h1, .inr ⟨g, cap, cur.setIfInBounds j u, rfl, hb, Joins.block_setCell (i := j) hg u, hn, hc, by simpa using hs, ?_⟩⟩
    rw [Array.toList_setIfInBounds, List.take_set, ht]
/-- a row of needs behind a cell of the call's own -/
def NA (lb : Nat) (l : List Need) (W : World) : Prop := ∃ v, W.heap[lb]? = some (.cells #[v] 71) ∧ W.ownsRow lb 79 3 v l.length (needCells l)
theorem NA.below {lb : Nat} {l : List Need} {W W' : World} (h : NA lb l W) (hb : Below W.heap.size W W') : NA lb l W' := by
  obtain ⟨v, h1, h2⟩ := h
  exact ⟨v, (hb.block lb (Array.getElem?_eq_some_iff.1 h1).1).trans h1, owns_below h2 hb⟩
theorem NA.lt {lb : Nat} {l : List Need} {W : World} (h : NA lb l W) : lb < W.heap.size := by
  obtain ⟨v, h1, _⟩ := h
  exact (Array.getElem?_eq_some_iff.1 h1).1
theorem infoNeed : (Tryz.prog.info? 79).map (fun i => (i.zero, i.size, i.bytes)) = some (some (.agg #[.string ⟨#[]⟩, .bool false, .bool false]), 3, 24) := by kernel_rfl
set_option maxHeartbeats 1000000 in
theorem add1_any (n : Need) (x : List UInt8) (cb : Nat) (w : World) (hx : w.cell? ⟨cb, 1, none⟩ = some (.string ⟨x.toArray⟩)) :
    Calls Tryz.prog 83 #[.agg #[.string ⟨n.nm.toArray⟩, .bool n.num, .bool n.text], .pointer (some ⟨cb, 0, none⟩)] w fun e w' => e = .returned (.bool (n.nm == x)) ∧ Below w.heap.size w w' := by
  have hlt := cellLt hx
  have HB := Lib.hid ((Below.refl w.heap.size w).alloc (Nat.le_refl _) (Obj.cells #[.string ⟨n.nm.toArray⟩, .bool n.num, .bool n.text] 79))
  go_enter Tryz.func83, Tryz.ntmps83
  go_wp2_with fail
  go_ret
  exact ⟨rfl, HB.out⟩
end Go.Proofs.YtnefcilopgcdpaaGreatDoor
namespace Go.Proofs.YtnefcilopgcdpaaGreatDoor
open Go.RowKit Ms
attribute [local go_sem ↓] apd_at

/-- one need more, at the operation -/
theorem need_step {w9 : World} {lb base n : Nat} {v v' : Value} {xs : List Value} {f : Nat × Nat} (x : ByteArray) (hown : w9.ownsRow base 79 3 v n xs) (hB : base ≤ w9.heap.size) (hk : w9.heap[lb]? = some (.cells #[v'] 71 f)) (hn : n ≤ 10000000) :
    ∃ g cap wq, Sem.run Tryz.prog (apd #[71, 71] 71 #[v, .slice (some ⟨w9.heap.size, 0, none⟩) 1 1]) (w9.alloc (.cells #[.string x, .bool false, .bool false] 79)).drew = .ok (.slice (some ⟨g, 0, none⟩) (n + 1) cap) wq ∧
      wq.ownsRow base 79 3 (.slice (some ⟨g, 0, none⟩) (n + 1) cap) (n + 1) (xs ++ [.string x, .bool false, .bool false]) ∧ (w9.alloc (.cells #[.string x, .bool false, .bool false] 79)).drew.grownBy wq v.ownBlock ∧ wq.heap[lb]? = some (.cells #[v'] 71 f) := by
  obtain ⟨i0, hi0, hz0', hz1', hz2'⟩ := info_parts infoNeed
  have ho : (w9.alloc (.cells #[.string x, .bool false, .bool false] 79)).drew.ownsRow base 79 3 v n xs := hown.alloc _
  have hl : lb < w9.heap.size := (Array.getElem?_eq_some_iff.1 hk).1
  have hk2 : (w9.alloc (.cells #[.string x, .bool false, .bool false] 79)).drew.heap[lb]? = some (.cells #[v'] 71 f) := (Go.heap_alloc_old w9 (.cells #[.string x, .bool false, .bool false] 79) hl).trans hk
  obtain ⟨g, cap, wq, hrun, hoq, hgq, _, _⟩ := run_append_lies (P := Tryz.prog) (w := (w9.alloc (.cells #[.string x, .bool false, .bool false] 79)).drew) 71 71 base 79 i0 _ 3 24 Tryz.underlying71 hi0 hz0' hz1' hz2' rfl (by decide) v n _ ho ⟨w9.heap.size, 0, none⟩ 1 1 [.string x, .bool false, .bool false] rfl (World.news_of_block (Go.heap_alloc_new w9 _)) (by simp [Value.oneCell']) (by decide) (by unfold maxLen; omega) (by omega) (by show base ≤ (w9.alloc _).heap.size; simp; omega) _ rfl
  exact ⟨g, cap, wq, hrun, hoq, hgq, (hgq.block lb (Array.getElem?_eq_some_iff.1 hk2).1 (own_ne ho hk2 (by decide)).symm).trans hk2⟩

/-- below lb all is as it was; so is every block that is not the row's, nor the cell's -/
def TF (lb : Nat) (W W' : World) : Prop := ∀ (k : Nat) (cs : Array Value) (t : TypeId) (f : Nat × Nat), W.heap[k]? = some (.cells cs t f) → t ≠ 79 → k ≠ lb → W'.heap[k]? = some (.cells cs t f)
structure FB (lb : Nat) (W W' : World) : Prop where
  below : Below lb W W'
  tf : TF lb W W'
theorem FB.refl (lb : Nat) (W : World) : FB lb W W := ⟨Below.refl _ _, fun _ _ _ _ h _ _ => h⟩
theorem FB.trans {lb : Nat} {A B C : World} (h : FB lb A B) (g : FB lb B C) : FB lb A C := ⟨h.below.trans g.below, fun k cs t f hk ht hl => g.tf k cs t f (h.tf k cs t f hk ht hl) ht hl⟩
theorem FB.of_below {lb : Nat} {A B : World} (h : Below A.heap.size A B) (hl : lb ≤ A.heap.size) : FB lb A B := ⟨h.mono hl, fun k _ _ _ hk _ _ => (h.block k (Array.getElem?_eq_some_iff.1 hk).1).trans hk⟩
theorem FB.set {lb j : Nat} {A B : World} (h : FB lb A B) (u : Value) : FB lb A (B.setCell ⟨lb, j, none⟩ u) := ⟨h.below.setCell (Nat.le_refl _) _, fun k cs t f hk ht hl => (heap_setCell_other B ⟨lb, j, none⟩ k u hl).trans (h.tf k cs t f hk ht hl)⟩
theorem FB.row {lb base n : Nat} {A B C : World} {v : Value} {xs : List Value} (h : FB lb A B) (hr : B.ownsRow base 79 3 v n xs) (hb : lb ≤ base) (hB : lb ≤ B.heap.size) (hg : B.grownBy C v.ownBlock) : FB lb A C := by
  refine ⟨below_grown h.below hg (fun k e => Nat.le_trans hb (hr.lt k e).1) hB, fun k cs t f hk ht hl => ?_⟩
  have hk2 := h.tf k cs t f hk ht hl
  exact (hg.block k (Array.getElem?_eq_some_iff.1 hk2).1 (fun e => own_ne hr hk2 ht e.symm)).trans hk2
theorem FB.rowset {lb base n g cap j : Nat} {A B : World} {xs : List Value} (h : FB lb A B) (hr : B.ownsRow base 79 3 (.slice (some ⟨g, 0, none⟩) n cap) n xs) (hb : lb ≤ base) (u : Value) : FB lb A (B.setCell ⟨g, j, none⟩ u) := by
  have hg := (hr.lt g rfl).1
  refine ⟨h.below.setCell (by show lb ≤ g; omega) _, fun k cs t f hk ht hl => ?_⟩
  have hk2 := h.tf k cs t f hk ht hl
  exact (heap_setCell_other B ⟨g, j, none⟩ k u (fun e => own_ne hr hk2 ht (by show some g = some k; rw [show k = g from e]))).trans hk2
theorem na_new {w w2 wq : World} {lb xb g cap : Nat} {l : List Need} {v : Value} {x : List UInt8} {o ox : Obj} (hr : w2.ownsRow lb 79 3 v l.length (needCells l)) (hx : w2.heap[xb]? = some ox) (hox : ∃ cs t, ox = .cells cs t ∧ t ≠ 79) (hne : xb ≠ lb) (hb : FB lb w w2) (hl : lb < w2.heap.size)
    (hoq : wq.ownsRow lb 79 3 (.slice (some ⟨g, 0, none⟩) (l.length + 1) cap) (l.length + 1) (needCells l ++ [.string ⟨x.toArray⟩, .bool false, .bool false])) (hgq : (w2.alloc o).drew.grownBy wq v.ownBlock) (hkq : wq.heap[lb]? = some (.cells #[v] 71)) :
    NA lb (l ++ [⟨x, false, false⟩]) (wq.setCell ⟨lb, 0, none⟩ (.slice (some ⟨g, 0, none⟩) (l.length + 1) cap)) ∧ (wq.setCell ⟨lb, 0, none⟩ (.slice (some ⟨g, 0, none⟩) (l.length + 1) cap)).heap[xb]? = some ox ∧ FB lb w (wq.setCell ⟨lb, 0, none⟩ (.slice (some ⟨g, 0, none⟩) (l.length + 1) cap)) := by
  refine ⟨⟨_, Joins.block_setCell (i := 0) hkq _, ?_⟩, ?_, ?_⟩
  · rw [List.length_append, needCells_app]
    exact row_set hoq (own_ne hoq hkq (by decide))
  · obtain ⟨cs, t, rfl, ht⟩ := hox
    have hxl : xb < w2.heap.size := (Array.getElem?_eq_some_iff.1 hx).1
    refine (heap_setCell_other wq ⟨lb, 0, none⟩ xb _ hne).trans ?_
    refine (hgq.block xb (by show xb < (w2.alloc o).heap.size; simp; omega) (fun e => own_ne hr hx ht e.symm)).trans ?_
    exact (Go.heap_alloc_old w2 o hxl).trans hx
  · have h1 : FB lb w (w2.alloc o).drew := hb.trans (FB.of_below ((Below.refl _ w2).alloc (Nat.le_refl _) o).drew (Nat.le_of_lt hl))
    have hra : (w2.alloc o).drew.ownsRow lb 79 3 v l.length (needCells l) := hr.alloc o
    refine (h1.row hra (Nat.le_refl _) ?_ hgq).set _
    show lb ≤ (w2.alloc o).heap.size
    simp; omega
set_option maxRecDepth 100000 in
set_option maxHeartbeats 8000000 in
theorem add_any (lb : Nat) (l : List Need) (k f : Int) (x : List UInt8) (va : Option Addr) (vn vc : Nat) (w : World) (hl : l.length ≤ 1000000) (hN : NA lb l w) :
    Calls Tryz.prog 56 #[.pointer (some ⟨lb, 0, none⟩), .agg #[.int .i64 k, .string ⟨x.toArray⟩, .int .i64 f, .slice va vn vc]] w fun e w' => e = .returned (.tuple #[]) ∧ NA lb (addNeed l k x) w' ∧ FB lb w w' := by
  have hlb := hN.lt
  have hB0 := ((Below.refl w.heap.size w).alloc (Nat.le_refl _) (Obj.cells #[.int .i64 k, .string ⟨x.toArray⟩, .int .i64 f, .slice va vn vc] 60))
  by_cases hk : k = 1 ∨ k = 6
  · have hN1 := Lib.hid (hN.below hB0)
    have HB := Lib.hid (FB.of_below hB0 (Nat.le_of_lt hlb))
    have HA := Lib.hid (show addNeed l k x = l by unfold addNeed; rw [if_pos hk])
    clear hN hB0
    rcases hk with rfl | rfl
    · go_enter Tryz.func56, Tryz.ntmps56
      go_wp2_with fail
      refine bodyPost_ret (v := .tuple #[]) (by simp [results, Tryz.results56, go_sem]) rfl ⟨rfl, ?_, HB.out⟩
      rw [HA.out]; exact hN1.out
    · go_enter Tryz.func56, Tryz.ntmps56
      go_wp2_with fail
      refine bodyPost_ret (v := .tuple #[]) (by simp [results, Tryz.results56, go_sem]) rfl ⟨rfl, ?_, HB.out⟩
      rw [HA.out]; exact hN1.out
  · have h1 : (k == 1) = false := by rw [beq_eq_false_iff_ne]; exact fun e => hk (.inl e)
    have h6 : (k == 6) = false := by rw [beq_eq_false_iff_ne]; exact fun e => hk (.inr e)
    have HA := Lib.hid (show addNeed l k x = (addNew l x).modify ((addNew l x).findIdx (fun n => n.nm == x)) (addAt k) by unfold addNeed; rw [if_neg hk])
    obtain ⟨w1, hw1⟩ : ∃ w1, w1 = w.alloc (Obj.cells #[.int .i64 k, .string ⟨x.toArray⟩, .int .i64 f, .slice va vn vc] 60) := ⟨_, rfl⟩
    have hxk : w1.heap[w.heap.size]? = some (Obj.cells #[.int .i64 k, .string ⟨x.toArray⟩, .int .i64 f, .slice va vn vc] 60) := by rw [hw1]; exact Go.heap_alloc_new w _
    rw [← hw1] at hB0
    have hN1 := hN.below hB0
    have hB1 := FB.of_below hB0 (Nat.le_of_lt hlb)
    obtain ⟨xb, hxb⟩ : ∃ xb, xb = w.heap.size := ⟨_, rfl⟩
    have hxl : lb < xb := by omega
    rw [← hxb] at hxk
    have HW1 := Lib.hid hw1; have HXB := Lib.hid hxb; have HXK := Lib.hid hxk; have HN1 := Lib.hid hN1; have HB1 := Lib.hid hB1
    have n0 := block_cell (i := 0) hxk rfl
    obtain ⟨v, hv1, hv2⟩ := hN1
    have hv3 := hv2
    obtain ⟨a, c, rfl, hpl⟩ := row_form hv3
    have hx1 : w1.cell? ⟨xb, 1, none⟩ = some (.string ⟨x.toArray⟩) := block_cell hxk rfl
    have y0 : w1.cell? ⟨lb, 0, none⟩ = some (.slice a l.length c) := block_cell hv1 rfl
    have hidx := idxNeedAt a l.length c (fun i => ((l.getD i nz).nm, (l.getD i nz).num, (l.getD i nz).text)) (fun i => (l.getD i nz).nm == x) xb w1 hl (by
        rcases hpl with h0 | ⟨g, rfl, _, _, _, hc⟩
        · exact .inl h0
        · exact .inr ⟨g, 0, rfl, fun i hi => ⟨hc _ _ (needCells_at l i hi).1, hc _ _ (needCells_at l i hi).2.1, hc _ _ (needCells_at l i hi).2.2⟩⟩) (fun i hi W hW => add1_any (l.getD i nz) x xb W ((hW.cell (p := ⟨xb, 1, none⟩) (cellLt hx1)).trans hx1))
    rw [first_list x l 0 _ (fun j hj => by rw [Nat.zero_add]), Nat.zero_add] at hidx
    obtain ⟨I, hI⟩ : ∃ I : Nat, I = (addNew l x).findIdx (fun n => n.nm == x) := ⟨_, rfl⟩
    have hIl : I < (addNew l x).length := by rw [hI]; exact (addNew_idx l x).2
    have hIe : I = if l.any (fun n => n.nm == x) = true then l.findIdx (fun n => n.nm == x) else l.length := by rw [hI]; exact (addNew_idx l x).1
    rw [← hI] at HA
    obtain ⟨J, hJ⟩ : ∃ J : Int, J = if l.any (fun n => n.nm == x) = true then (l.findIdx (fun n => n.nm == x) : Int) else -1 := ⟨_, rfl⟩
    rw [← hJ] at hidx
    have HJ := Lib.hid hJ
    clear hJ
    have HIX := Lib.hid hidx; have HV1 := Lib.hid hv1; have HV2 := Lib.hid hv2; have HIE := Lib.hid hIe
    clear hw1 hxb hxk hB0 hN hB1 hv1 hv2 hv3 hpl hidx hI hIe hk hx1
    go_enter Tryz.func56, Tryz.ntmps56
    go_upto_if 13 with fail
    rw [← HXB.out, ← HW1.out]
    go_wp2_with fail
    refine HIX.out.mono ?_
    rintro e w2 ⟨rfl, hb⟩
    have hw1s : xb < w1.heap.size := (Array.getElem?_eq_some_iff.1 HXK.out).1
    have k2 := (hb.block lb (by omega)).trans HV1.out
    have x2 := (hb.block xb hw1s).trans HXK.out
    have hr2 := owns_below HV2.out hb
    have hb2 := HB1.out.trans (FB.of_below hb (by omega))
    have hs2 : xb < w2.heap.size := by have := hb.size; omega
    clear hb HIX HW1 HXB n0 y0
    have y0 : w2.cell? ⟨lb, 0, none⟩ = some (.slice a l.length c) := block_cell k2 rfl
    have f0 : w2.frozen? ⟨lb, 0, none⟩ = false := by simp [World.frozen?, k2]
    have n0 : w2.cell? ⟨xb, 0, none⟩ = some (.int .i64 k) := block_cell x2 rfl
    have n1 : w2.cell? ⟨xb, 1, none⟩ = some (.string ⟨x.toArray⟩) := block_cell x2 rfl
    have K2 := Lib.hid k2; have X2 := Lib.hid x2; have R2 := Lib.hid hr2; have B2 := Lib.hid hb2
    clear k2 x2 hr2 hb2
    have hjb : -1 ≤ J ∧ J ≤ l.length := by
      rw [HJ.out]
      split
      · next h => have := find_lt x l h; omega
      · omega
    go_upto_if 20 with fail
    obtain ⟨bb, hbb⟩ : ∃ bb, bb = decide (J < 0) := ⟨_, rfl⟩
    rw [← hbb]
    have HBB := Lib.hid hbb
    clear hbb
    go_cut [4] from 21 (fun s4 wx => s4 = .int .i64 I ∧ Hid (NA lb (addNew l x) wx) ∧ Hid (wx.heap[xb]? = some (Obj.cells #[.int .i64 k, .string ⟨x.toArray⟩, .int .i64 f, .slice va vn vc] 60)) ∧ Hid (FB lb w wx))
    case first =>
      cases bb with
      | false =>
        have hjn : ¬ J < 0 := by simpa using HBB.out.symm
        have hany : l.any (fun n => n.nm == x) = true := by
          cases h : l.any (fun n => n.nm == x) with
          | true => rfl
          | false => exfalso; have := HJ.out; rw [h] at this; simp at this; omega
        have hji : J = (I : Int) := by rw [HJ.out, HIE.out, if_pos hany, if_pos hany]
        have hna : NA lb (addNew l x) w2 := by unfold addNew; rw [if_pos hany]; exact ⟨_, K2.out, R2.out⟩
        subst hji
        clear hany hjn
        go_wp2_with fail
        go_meet
        case rel => exact ⟨rfl, Lib.hid hna, X2, B2⟩
      | true =>
        have hjn : J < 0 := by simpa using HBB.out.symm
        have hany : l.any (fun n => n.nm == x) = false := by
          cases h : l.any (fun n => n.nm == x) with
          | false => rfl
          | true => exfalso; have := HJ.out; rw [h] at this; simp at this; omega
        have hil : I = l.length := by rw [HIE.out, hany]; rfl
        have hw2b : lb ≤ w2.heap.size := by omega
        obtain ⟨g, cap, wq, hrun, hoq, hgq, hkq⟩ := need_step ⟨x.toArray⟩ R2.out hw2b K2.out (by omega)
        have yq : wq.cell? ⟨lb, 0, none⟩ = some (.slice a l.length c) := block_cell hkq rfl
        have fq : wq.frozen? ⟨lb, 0, none⟩ = false := by simp [World.frozen?, hkq]
        have kb := (Below.refl w2.heap.size w2).alloc (Nat.le_refl _) (.cells #[.string ⟨x.toArray⟩, .bool false, .bool false] 79)
        have ya := keepCells kb _ _ _ y0
        have na := keepCells kb _ _ _ n1
        have HIL := Lib.hid hil; have HANY := Lib.hid hany; have HOQ := Lib.hid hoq; have HGQ := Lib.hid hgq; have HKQ := Lib.hid hkq
        have HNN := Lib.hid (na_new R2.out X2.out ⟨_, _, rfl, by decide⟩ (by omega) B2.out (by omega) HOQ.out HGQ.out HKQ.out)
        clear hil hany hoq hgq hkq kb hjn
        go_upto_region 5 with fail
        go_region_with (fail)
        all_goals
          go_wp2_with fail
          go_meet
          case rel =>
            refine ⟨by rw [HIL.out], Lib.hid ?_, Lib.hid HNN.out.2.1, Lib.hid HNN.out.2.2⟩
            unfold addNew
            rw [HANY.out]
            exact HNN.out.1
    case rest =>
      obtain ⟨rfl, HN2, HX2, HB2⟩ := hcut
      clear HBB HJ HIE hjb n0 n1 y0 f0 K2 X2 R2 B2 HV1 HV2 HN1 HXK HB1
      obtain ⟨l2, hl2⟩ : ∃ l2, l2 = addNew l x := ⟨_, rfl⟩
      rw [← hl2] at HA HN2 hIl
      have hll2 : l2.length ≤ 1000001 := by
        rw [hl2]; unfold addNew; split
        · omega
        · simp; omega
      obtain ⟨v2, hv, hr⟩ := HN2.out
      obtain ⟨a2, c2, rfl, h0 | ⟨g, rfl, hob, hg1, hg2, hc⟩⟩ := row_form hr
      · omega
      · obtain ⟨q0, q1, q2⟩ := needCells_at l2 I hIl
        have m1 := hc _ _ q1
        have m2 := hc _ _ q2
        rw [Nat.zero_add] at m1 m2
        obtain ⟨n, hn⟩ : ∃ n, n = l2.getD I nz := ⟨_, rfl⟩
        rw [← hn] at m1 m2
        have fz : ∀ j, wc.frozen? ⟨g, j, none⟩ = false := by
          intro j
          rcases hr.2 with ⟨he, _⟩ | ⟨g', cap', cur, he, _, hgb, _⟩
          · cases he
          · simp only [Value.slice.injEq, Option.some.injEq, Addr.mk.injEq, and_true] at he
            obtain ⟨rfl, _⟩ := he
            simp [World.frozen?, hgb]
        have fz1 := fz (I * 3 + 1)
        have y0 : wc.cell? ⟨lb, 0, none⟩ = some (.slice (some ⟨g, 0, none⟩) l2.length c2) := block_cell hv rfl
        have n0 : wc.cell? ⟨xb, 0, none⟩ = some (.int .i64 k) := block_cell HX2.out rfl
        have hgl : g ≠ lb := fun e => own_ne hr hv (by decide) (by rw [← e]; exact hob)
        have hgx : g ≠ xb := fun e => own_ne hr HX2.out (by decide) (by rw [← e]; exact hob)
        have HFz := Lib.hid fz; have HR := Lib.hid hr; have HV := Lib.hid hv; have HNn := Lib.hid hn; have HL2 := Lib.hid hl2; have HM2 := Lib.hid m2
        clear fz hr hv hn hl2 hc q0 q1 q2 m2 hob HN2
        obtain ⟨b1, hb1⟩ : ∃ b1, b1 = (n.num || (k == 3 || k == 4)) := ⟨_, rfl⟩
        have HB1' := Lib.hid hb1
        clear hb1
        go_upto_region 7 with fail
        generalize wc = wo at *
        go_cut [] from 40 (fun wx => wx = wo.setCell ⟨g, I * 3 + 1, none⟩ (.bool b1))
        case first =>
          cases hnum : n.num with
          | true =>
            have e1 : b1 = true := by rw [HB1'.out, hnum]; rfl
            subst e1
            rw [hnum] at m1
            clear hnum
            go_wp2_with fail
            go_meet
            case rel => rfl
          | false =>
            rw [hnum] at m1
            cases h3 : (k == 3) with
            | true =>
              have e1 : b1 = true := by rw [HB1'.out, hnum, h3]; rfl
              subst e1
              clear hnum
              go_wp2_with fail
              go_meet
              case rel => rfl
            | false =>
              have e1 : b1 = (k == 4) := by rw [HB1'.out, hnum, h3]; rfl
              have HE1 := Lib.hid e1
              clear hnum e1
              go_wp2_with fail
              go_meet
              case rel => rw [HE1.out]
        case rest =>
          have hfin : ∀ b2, b2 = (n.text || k == 5) → NA lb (l2.modify I (addAt k)) ((wo.setCell ⟨g, I * 3 + 1, none⟩ (.bool b1)).setCell ⟨g, I * 3 + 2, none⟩ (.bool b2)) ∧ FB lb w ((wo.setCell ⟨g, I * 3 + 1, none⟩ (.bool b1)).setCell ⟨g, I * 3 + 2, none⟩ (.bool b2)) := by
            intro b2 hb2
            have r1 := row_put (j := I * 3 + 2) (row_put (j := I * 3 + 1) HR.out (.bool b1)) (.bool b2)
            have e1 : b1 = (addAt k (l2.getD I nz)).num := by rw [HB1'.out, HNn.out]; rfl
            have e2 : b2 = (addAt k (l2.getD I nz)).text := by rw [hb2, HNn.out]; rfl
            have e3 := needCells_set (addAt k) (addAt_nm k) l2 I hIl
            rw [← e1, ← e2] at e3
            rw [e3] at r1
            refine ⟨⟨_, (heap_setCell_other _ ⟨g, I * 3 + 2, none⟩ lb _ (by show lb ≠ g; omega)).trans ((heap_setCell_other wo ⟨g, I * 3 + 1, none⟩ lb _ (by show lb ≠ g; omega)).trans HV.out), by rw [List.length_modify]; exact r1⟩, (HB2.out.rowset HR.out (Nat.le_refl _) _).rowset (row_put (j := I * 3 + 1) HR.out (.bool b1)) (Nat.le_refl _) _⟩
          have nx0 : (wo.setCell ⟨g, I * 3 + 1, none⟩ (.bool b1)).cell? ⟨xb, 0, none⟩ = some (.int .i64 k) := far_cell (b := xb) (cb := g) (fun e => hgx e.symm) _ _ n0
          have mx2 : (wo.setCell ⟨g, I * 3 + 1, none⟩ (.bool b1)).cell? ⟨g, I * 3 + 2, none⟩ = some (.bool n.text) := by
            rw [World.cell?_setCell_other _ _ _ _ (by simp)]; exact HM2.out
          have fz2 : (wo.setCell ⟨g, I * 3 + 1, none⟩ (.bool b1)).frozen? ⟨g, I * 3 + 2, none⟩ = false := by
            rw [World.frozen?_setCell]; exact HFz.out _
          have HFin := Lib.hid hfin
          clear hfin m1 fz1 y0 n0
          rw [← hcut] at nx0 mx2 fz2 HFin
          clear hcut
          cases htx : n.text with
          | true =>
            rw [htx] at mx2
            have HF2 := Lib.hid (HFin.out true (by rw [htx]; rfl))
            clear htx
            go_wp2_with fail
            go_end0
            exact ⟨rfl, by rw [HA.out]; exact HF2.out.1, HF2.out.2⟩
          | false =>
            rw [htx] at mx2
            have HF2 := Lib.hid (HFin.out (k == 5) (by rw [htx]; rfl))
            clear htx
            go_wp2_with fail
            go_end0
            exact ⟨rfl, by rw [HA.out]; exact HF2.out.1, HF2.out.2⟩
end Go.Proofs.YtnefcilopgcdpaaGreatDoor
