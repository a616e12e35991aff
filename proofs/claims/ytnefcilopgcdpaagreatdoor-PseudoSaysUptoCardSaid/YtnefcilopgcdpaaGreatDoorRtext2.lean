/-
  rule.Text of a right rule; rule.Holds.
-/
import Derived.Test.YtnefcilopgcdpaaGreatDoorRchk
import Derived.Test.YtnefcilopgcdpaaGreatDoorMaps
import Derived.Test.YtnefcilopgcdpaaGreatDoorDecB
namespace Go.Proofs.YtnefcilopgcdpaaGreatDoor
open Go.RowKit Go.Sort

theorem ruleText_len {r : List (List Re)} (h : RuleOk r) : (ruleText r).length ≤ 10000000000 := by
  unfold ruleText
  have j := join_len [32, 111, 114, 32] 200000000 (r.map partText) (fun x hx => by
    obtain ⟨p, hp, rfl⟩ := List.mem_map.1 hx
    exact partText_len (h.2 p hp))
  rw [List.length_map] at j
  have := ruleOk_short h
  simp only [List.length_cons, List.length_nil] at j
  omega
set_option maxHeartbeats 1000000 in
theorem rtext_ok (r : List (List Re)) (v : Value) (w : World) (h : RuleOk r) (hv : RuleR w v r) (hm : MW w) :
    Calls Tryz.prog 118 #[v] w fun e w' => e = .returned (.tuple #[.string ⟨(ruleText r).toArray⟩, .nilIface]) ∧ Below w.heap.size w w' := by
  obtain ⟨a, c, u, rfl, hu, hp⟩ := hv.places
  have hj : ∀ W, Below w.heap.size w W → Calls Tryz.prog 152 #[.slice a r.length c, .string ⟨#[32, 111, 114, 32]⟩, .func (.func 153) #[] #[]] W fun e w' => e = .returned (.string ⟨(ruleText r).toArray⟩) ∧ Below W.heap.size W w' := by
    intro W hW
    obtain ⟨a', c', u', he, hu', hp'⟩ := (hv.below hW).places
    simp only [Value.slice.injEq] at he
    obtain ⟨rfl, _, rfl⟩ := he
    have hj := joinedPart a c u' (r.map partText) ⟨#[32, 111, 114, 32]⟩ W (by rw [List.length_map]; have := ruleOk_short h; omega) (fun i hi => (hu' i (by rw [List.length_map] at hi; exact hi)).form) (by
        have := ruleText_len h
        unfold ruleText at this
        show (Lib.join (r.map partText) [32, 111, 114, 32]).length ≤ _
        omega) (by rw [List.length_map]; exact hp') (by
        intro i hi W' hB'
        rw [List.length_map] at hi
        rw [getD_map partText [] [] r i hi]
        exact text1_any _ _ W' (h.2 _ (mem_getD r [] i hi)) ((hu' i hi).below hB') (hm.below (hW.trans (hB'.mono hW.size))))
    rw [List.length_map] at hj
    exact hj
  have HJ := Lib.hid hj
  have HC := Lib.hid (rcheck_any r _ w h hv)
  clear hj hu hp hv h hm
  go_enter Tryz.func118, Tryz.ntmps118
  go_wp2_with fail
  refine HC.out.mono ?_
  rintro e w1 ⟨rfl, hb⟩
  have HB := Lib.hid hb
  clear hb
  go_wp2_with fail
  refine (HJ.out _ HB.out).mono ?_
  rintro e w2 ⟨rfl, hb⟩
  have HB2 := Lib.hid (HB.out.trans (hb.mono HB.out.size))
  clear hb
  go_wp2_with fail
  go_ret2
  exact ⟨rfl, HB2.out⟩
/-! ### rule.Holds -/
set_option maxHeartbeats 1000000 in
theorem holds1_any (p : Int × Int) (x : Int) (cb : Nat) (w : World) (hx : w.cell? ⟨cb, 0, none⟩ = some (.int .i64 x)) :
    Calls Tryz.prog 160 #[.agg #[.int .i64 p.1, .int .i64 p.2], .pointer (some ⟨cb, 0, none⟩)] w fun e w' => e = .returned (.bool (inRng x p)) ∧ Below w.heap.size w w' := by
  obtain ⟨a, b⟩ := p
  have hlt := cellLt hx
  have HB := Lib.hid ((Below.refl w.heap.size w).alloc (Nat.le_refl _) (Obj.cells #[Value.int IntKind.i64 a, Value.int IntKind.i64 b] 237))
  obtain ⟨z, hz⟩ : ∃ z, z = inRng x (a, b) := ⟨_, rfl⟩
  rw [← hz]
  have HZ := Lib.hid hz
  clear hz
  go_enter Tryz.func160, Tryz.ntmps160
  by_cases h1 : a ≤ x
  · have e1 : decide (a ≤ x) = true := by simpa using h1
    have HE := Lib.hid (show z = decide (x ≤ b) by rw [HZ.out]; unfold inRng; simp only [e1, Bool.true_and])
    clear HZ h1
    go_wp2_with fail
    go_ret
    exact ⟨ret_bool HE.out.symm, HB.out⟩
  · have e1 : decide (a ≤ x) = false := by simpa using h1
    have HE := Lib.hid (show z = false by rw [HZ.out]; unfold inRng; simp only [e1, Bool.false_and])
    clear HZ h1
    go_wp2_with fail
    go_ret
    exact ⟨ret_bool HE.out.symm, HB.out⟩

def opMap (o : Op5) : List (Value × Value) := [(.int .u8 110, .int .i64 o.i), (.int .u8 105, .int .i64 o.i), (.int .u8 118, .int .i64 o.v), (.int .u8 119, .int .i64 o.w), (.int .u8 102, .int .i64 o.f), (.int .u8 116, .int .i64 o.t)]
theorem looks_op (o : Op5) {c : Nat} (h : c ∈ opsL) : Looks (opMap o) (.int .u8 (c : Int)) (some (.int .i64 (opVal c o))) := by
  have h' : c = 110 ∨ c = 105 ∨ c = 118 ∨ c = 119 ∨ c = 102 ∨ c = 116 := by simpa [opsL] using h
  rcases h' with rfl | rfl | rfl | rfl | rfl | rfl
  · exact .some [] _ _ rfl (by simp)
  · exact .some [(.int .u8 110, .int .i64 o.i)] _ _ rfl (by simp)
  · exact .some [(.int .u8 110, .int .i64 o.i), (.int .u8 105, .int .i64 o.i)] _ _ rfl (by simp)
  · exact .some [(.int .u8 110, .int .i64 o.i), (.int .u8 105, .int .i64 o.i), (.int .u8 118, .int .i64 o.v)] _ _ rfl (by simp)
  · exact .some [(.int .u8 110, .int .i64 o.i), (.int .u8 105, .int .i64 o.i), (.int .u8 118, .int .i64 o.v), (.int .u8 119, .int .i64 o.w)] _ _ rfl (by simp)
  · exact .some [(.int .u8 110, .int .i64 o.i), (.int .u8 105, .int .i64 o.i), (.int .u8 118, .int .i64 o.v), (.int .u8 119, .int .i64 o.w), (.int .u8 102, .int .i64 o.f)] _ _ rfl (by simp)
theorem opMap_keys (o : Op5) : ∀ p ∈ opMap o, MapKept.IsKey (.int .u8) p.1 := by simp [opMap, MapKept.IsKey]
theorem opTy : MapTy Tryz.prog 244 5 3 (.int .u8) := ⟨by kernel_rfl, by kernel_rfl⟩
structure HoW (w0 W : World) (r : Re) (v : Value) (o : Op5) (l : List (Value × Value)) : Prop where
  k0 : W.heap[w0.heap.size]? = some (.cells #[.int .u8 r.op, .int .i64 r.md, .bool r.no, v] 203)
  k1 : W.heap[w0.heap.size + 1]? = some (.cells #[.int .i64 o.i, .int .i64 o.v, .int .i64 o.w, .int .i64 o.f, .int .i64 o.t] 169)
  mp : MapIs W (w0.heap.size + 2) l
  bl : Below w0.heap.size w0 W
  sz : W.heap.size = w0.heap.size + 3
theorem HoW.step {w0 W W' : World} {r : Re} {v : Value} {o : Op5} {l l' : List (Value × Value)} (h : HoW w0 W r v o l) (hm : MapIs W' (w0.heap.size + 2) l') (hg : W.grownBy W' (some (w0.heap.size + 2))) (hz : W'.heap.size = W.heap.size) : HoW w0 W' r v o l' := by
  have hs := h.sz
  exact ⟨(hg.block _ (by omega) (fun e => by simp at e)).trans h.k0, (hg.block _ (by omega) (fun e => by simp at e)).trans h.k1, hm, below_grown h.bl hg (fun k e => by cases e; omega) (by omega), by omega⟩
theorem HoW.o0 {w0 W : World} {r : Re} {v : Value} {o : Op5} {l : List (Value × Value)} (h : HoW w0 W r v o l) : W.cell? ⟨w0.heap.size + 1, 0, none⟩ = some (.int .i64 o.i) ∧ W.cell? ⟨w0.heap.size + 1, 1, none⟩ = some (.int .i64 o.v) ∧ W.cell? ⟨w0.heap.size + 1, 2, none⟩ = some (.int .i64 o.w) ∧ W.cell? ⟨w0.heap.size + 1, 3, none⟩ = some (.int .i64 o.f) ∧ W.cell? ⟨w0.heap.size + 1, 4, none⟩ = some (.int .i64 o.t) := ⟨block_cell h.k1 rfl, block_cell h.k1 rfl, block_cell h.k1 rfl, block_cell h.k1 rfl, block_cell h.k1 rfl⟩
theorem HoW.r0 {w0 W : World} {r : Re} {v : Value} {o : Op5} {l : List (Value × Value)} (h : HoW w0 W r v o l) : W.cell? ⟨w0.heap.size, 0, none⟩ = some (.int .u8 r.op) ∧ W.cell? ⟨w0.heap.size, 1, none⟩ = some (.int .i64 r.md) ∧ W.cell? ⟨w0.heap.size, 2, none⟩ = some (.bool r.no) ∧ W.cell? ⟨w0.heap.size, 3, none⟩ = some v := ⟨block_cell h.k0 rfl, block_cell h.k0 rfl, block_cell h.k0 rfl, block_cell h.k0 rfl⟩
theorem zeroInt (w : World) : (zeroValue 3).run Tryz.prog w = .ok (.int .i64 0) w := by kernel_rfl
set_option maxHeartbeats 4000000 in
set_option maxRecDepth 100000 in
theorem holds_any (r : Re) (v : Value) (o : Op5) (w : World) (h : ReOk r) (hv : RngR w v r.rs) (hx : 0 ≤ opVal r.op o) :
    Calls Tryz.prog 124 #[.agg #[.int .u8 r.op, .int .i64 r.md, .bool r.no, v], opV o] w fun e w' => e = .returned (.bool (relHolds o r)) ∧ Below w.heap.size w w' := by
  obtain ⟨a, c, rfl, hp⟩ := hv.places
  obtain ⟨z, hz⟩ : ∃ z, z = relHolds o r := ⟨_, rfl⟩
  rw [← hz]
  have HZ := Lib.hid hz
  have HOp := Lib.hid h.op
  have HMd := Lib.hid h.md
  have HLk := Lib.hid (looks_op o h.op)
  have HV := Lib.hid hv
  have hrl := h.len
  have HX := Lib.hid hx
  have hmm := @run_makeMap Tryz.prog
  have hS : HoW w (((w.alloc (.cells #[.int .u8 r.op, .int .i64 r.md, .bool r.no, .slice a r.rs.length c] 203)).alloc (.cells #[.int .i64 o.i, .int .i64 o.v, .int .i64 o.w, .int .i64 o.f, .int .i64 o.t] 169)).alloc (.map #[] 0)) r (.slice a r.rs.length c) o [] := by
    obtain ⟨b1, b2, b3, b4, b5⟩ := three_boxes w (.cells #[.int .u8 r.op, .int .i64 r.md, .bool r.no, .slice a r.rs.length c] 203) (.cells #[.int .i64 o.i, .int .i64 o.v, .int .i64 o.w, .int .i64 o.f, .int .i64 o.t] 169) (.map #[] 0)
    exact ⟨b1, b2, ⟨#[], 0, b3, rfl⟩, b4, b5⟩
  clear hz h hx hp hv
  unfold opV
  go_enter Tryz.func124, Tryz.ntmps124
  obtain ⟨q0, q1, q2, q3, q4⟩ := hS.o0
  obtain ⟨p0, p1, p2, p3⟩ := hS.r0
  go_upto_if 26 with (first
    | (at_lookup; refine wpList_look_map opTy zeroInt _ rfl _ _ false rfl (w.heap.size + 2) (opMap o) _ rfl rfl hS.mp (opMap_keys o) rfl _ HLk.out ?_; dsimp only [lookV]; have hl0 : w.heap.size < w1.heap.size := (by have := hS.sz; omega); have hl1 : w.heap.size + 1 < w1.heap.size := (by have := hS.sz; omega))
    | (refine wpList_insert_map opTy _ rfl _ _ _ rfl (w.heap.size + 2) _ (.int .u8 _) (.int .i64 _) rfl rfl rfl hS.mp (by simp [MapKept.IsKey]) rfl (by simp) ?_; intro w1 hM1 hg1 hz1; replace hS := hS.step hM1 hg1 hz1; clear hM1 hg1 hz1 q0 q1 q2 q3 q4 p0 p1 p2 p3; obtain ⟨q0, q1, q2, q3, q4⟩ := hS.o0; obtain ⟨p0, p1, p2, p3⟩ := hS.r0))
  have hmd := HMd.out
  have hx0 := HX.out
  obtain ⟨X, hXe⟩ : ∃ X, X = relVal r o := ⟨_, rfl⟩
  have hrel : relHolds o r = ((r.rs.any (inRng X) && (decide (r.op ≠ 110) || decide (o.t = 0))) != r.no) := by rw [hXe]; rfl
  have HXe := Lib.hid hXe
  have HZ2 := Lib.hid (show z = ((r.rs.any (inRng X) && (decide (r.op ≠ 110) || decide (o.t = 0))) != r.no) by rw [HZ.out, hrel])
  obtain ⟨xb, hxb⟩ : ∃ xb, xb = w1.heap.size := ⟨_, rfl⟩
  have hxl : w.heap.size + 2 < xb := by rw [hxb, hS.sz]; omega
  have b0 := (Go.heap_alloc_old w1 (Obj.cells #[Value.int IntKind.i64 (opVal r.op o)] 3) hl0).trans hS.k0
  have b1 := (Go.heap_alloc_old w1 (Obj.cells #[Value.int IntKind.i64 (opVal r.op o)] 3) hl1).trans hS.k1
  have b2 := Go.heap_alloc_new w1 (Obj.cells #[Value.int IntKind.i64 (opVal r.op o)] 3)
  have bl := hS.bl.alloc (by omega) (Obj.cells #[Value.int IntKind.i64 (opVal r.op o)] 3)
  rw [← hxb] at b2 ⊢
  generalize w1.alloc (Obj.cells #[Value.int IntKind.i64 (opVal r.op o)] 3) = w2 at *
  obtain ⟨bb, hbb⟩ : ∃ bb, bb = (r.md != 0) := ⟨_, rfl⟩
  rw [← hbb]
  have HBB := Lib.hid hbb
  have B0 := Lib.hid b0; have B1 := Lib.hid b1; have B2 := Lib.hid b2; have BL := Lib.hid bl
  clear hbb hrel hXe hxb hl0 hl1 q0 q1 q2 q3 q4 p0 p1 p2 p3 hS hmm HLk HZ b0 b1 b2 bl hmd hx0
  go_cut [] from 27 (fun wx => Hid (wx.heap[w.heap.size]? = some (.cells #[.int .u8 r.op, .int .i64 r.md, .bool r.no, .slice a r.rs.length c] 203)) ∧ Hid (wx.heap[w.heap.size + 1]? = some (.cells #[.int .i64 o.i, .int .i64 o.v, .int .i64 o.w, .int .i64 o.f, .int .i64 o.t] 169)) ∧ Hid (wx.heap[xb]? = some (.cells #[.int .i64 X] 3)) ∧ Hid (Below w.heap.size w wx))
  case first =>
    cases bb with
    | false =>
      have he0 : r.md = 0 := by have := HBB.out.symm; simpa using this
      have hX2 : X = opVal r.op o := by rw [HXe.out]; unfold relVal; rw [if_pos he0]
      have B2' := Lib.hid (show w2.heap[xb]? = some (.cells #[.int .i64 X] 3) by rw [hX2]; exact B2.out)
      clear he0 hX2
      go_wp2_with fail
      go_meet
      case rel => exact ⟨B0, B1, B2', BL⟩
    | true =>
      have hne : ¬ r.md = 0 := by have := HBB.out.symm; simpa using this
      have hmd := HMd.out; have hx0 := HX.out
      have hX2 : X = opVal r.op o % r.md := by rw [HXe.out]; unfold relVal; rw [if_neg hne, Int.tmod_eq_emod_of_nonneg hx0]
      have HX2 := Lib.hid hX2
      have hmz : (r.md == 0) = false := by simpa using hne
      have y1 : w2.cell? ⟨w.heap.size, 1, none⟩ = some (.int .i64 r.md) := block_cell B0.out rfl
      have yx : w2.cell? ⟨xb, 0, none⟩ = some (.int .i64 (opVal r.op o)) := block_cell B2.out rfl
      have fx : w2.frozen? ⟨xb, 0, none⟩ = false := by simp [World.frozen?, B2.out]
      clear hX2
      go_wp2_with fail
      go_meet
      case rel =>
        refine ⟨Lib.hid ?_, Lib.hid ?_, Lib.hid ?_, Lib.hid (BL.out.setCell (by show w.heap.size ≤ xb; omega) _)⟩
        · exact (heap_setCell_other w2 ⟨xb, 0, none⟩ _ _ (by show w.heap.size ≠ xb; omega)).trans B0.out
        · exact (heap_setCell_other w2 ⟨xb, 0, none⟩ _ _ (by show w.heap.size + 1 ≠ xb; omega)).trans B1.out
        · rw [HX2.out]; exact Joins.block_setCell (i := 0) B2.out _
  case rest =>
    obtain ⟨B0, B1, B2, BL⟩ := hcut
    clear HBB HXe
    have hC : Calls Tryz.prog 159 #[.slice a r.rs.length c, .func (.func 160) #[] #[.pointer (some ⟨xb, 0, none⟩)]] wc fun e w' => e = .returned (.bool (r.rs.any (inRng X))) ∧ Below wc.heap.size wc w' := by
      obtain ⟨a', c', he, hp'⟩ := (HV.out.below BL.out).places
      simp only [Value.slice.injEq] at he
      obtain ⟨rfl, _, rfl⟩ := he
      have hyx : wc.cell? ⟨xb, 0, none⟩ = some (.int .i64 X) := block_cell B2.out rfl
      have hj := contRngIn a r.rs.length c (fun i => r.rs.getD i (0, 0)) (fun i => inRng X (r.rs.getD i (0, 0))) xb wc (by omega) hp' (fun i hi W' hB' => holds1_any _ X xb W' ((hB'.cell (p := ⟨xb, 0, none⟩) (cellLt hyx)).trans hyx))
      rw [anyI_list (inRng X) (0, 0) r.rs 0 _ (fun j hj => by rw [Nat.zero_add])] at hj
      exact hj
    obtain ⟨IN, hIN⟩ : ∃ IN, IN = r.rs.any (inRng X) := ⟨_, rfl⟩
    rw [← hIN] at hC HZ2
    have HC := Lib.hid hC
    have y0 : wc.cell? ⟨w.heap.size, 0, none⟩ = some (.int .u8 r.op) := block_cell B0.out rfl
    have y2 : wc.cell? ⟨w.heap.size, 2, none⟩ = some (.bool r.no) := block_cell B0.out rfl
    have y3 : wc.cell? ⟨w.heap.size, 3, none⟩ = some (.slice a r.rs.length c) := block_cell B0.out rfl
    clear hC hIN
    go_wp2_with fail
    refine HC.out.mono ?_
    rintro e w5 ⟨rfl, hb⟩
    have hws : w.heap.size + 1 < wc.heap.size := (Array.getElem?_eq_some_iff.1 B1.out).1
    have k0 := (hb.block w.heap.size (by omega)).trans B0.out
    have k1 := (hb.block (w.heap.size + 1) hws).trans B1.out
    have HB5 := Lib.hid (BL.out.trans (hb.mono BL.out.size))
    clear hb y0 y2 y3 HC B0 B1 B2 BL
    have y0 : w5.cell? ⟨w.heap.size, 0, none⟩ = some (.int .u8 r.op) := block_cell k0 rfl
    have y2 : w5.cell? ⟨w.heap.size, 2, none⟩ = some (.bool r.no) := block_cell k0 rfl
    have yt : w5.cell? ⟨w.heap.size + 1, 4, none⟩ = some (.int .i64 o.t) := block_cell k1 rfl
    clear k0 k1
    cases IN with
    | false =>
      have HZ3 := Lib.hid (show z = (false != r.no) by rw [HZ2.out, Bool.false_and])
      clear HZ2
      go_wp2_with fail
      go_ret
      exact ⟨ret_bool (by rw [HZ3.out]; cases r.no <;> rfl), HB5.out⟩
    | true =>
      by_cases hop : r.op = 110
      · have hopb : ((r.op : Int) != 110) = false := by rw [hop]; rfl
        have HZ3 := Lib.hid (show z = ((decide (o.t = 0)) != r.no) by rw [HZ2.out, decide_eq_false (by simpa using hop), Bool.true_and, Bool.false_or])
        clear HZ2 hop
        go_wp2_with fail
        go_ret
        exact ⟨ret_bool (by rw [HZ3.out]; cases r.no <;> by_cases ht : o.t = 0 <;> simp [ht]), HB5.out⟩
      · have hopb : ((r.op : Int) != 110) = true := by rw [bne_iff_ne]; omega
        have HZ3 := Lib.hid (show z = (true != r.no) by rw [HZ2.out, decide_eq_true hop, Bool.true_and, Bool.true_or])
        clear HZ2 hop
        go_wp2_with fail
        go_ret
        exact ⟨ret_bool (by rw [HZ3.out]; cases r.no <;> rfl), HB5.out⟩

/-- an operand's block -/
def opO (o : Op5) : Obj := .cells #[.int .i64 o.i, .int .i64 o.v, .int .i64 o.w, .int .i64 o.f, .int .i64 o.t] 169
structure OpOk (o : Op5) : Prop where
  i : 0 ≤ o.i
  v : 0 ≤ o.v
  w : 0 ≤ o.w
  f : 0 ≤ o.f
  t : 0 ≤ o.t
theorem opVal_ok {o : Op5} (h : OpOk o) (c : Nat) : 0 ≤ opVal c o := by
  obtain ⟨h1, h2, h3, h4, h5⟩ := h
  unfold opVal
  repeat' split
  all_goals omega
set_option maxHeartbeats 1000000 in
theorem holds11_any (r : Re) (v : Value) (o : Op5) (cb : Nat) (w : World) (h : ReOk r) (ho : OpOk o) (hv : RngR w v r.rs) (hx : w.heap[cb]? = some (opO o)) :
    Calls Tryz.prog 123 #[.agg #[.int .u8 r.op, .int .i64 r.md, .bool r.no, v], .pointer (some ⟨cb, 0, none⟩)] w fun e w' => e = .returned (.bool (!relHolds o r)) ∧ Below w.heap.size w w' := by
  obtain ⟨a, m, c, rfl⟩ := hv.form
  have hB := (Below.refl w.heap.size w).alloc (Nat.le_refl _) (Obj.cells #[Value.int IntKind.u8 r.op, Value.int IntKind.i64 r.md, Value.bool r.no, .slice a m c] 203)
  have HH := Lib.hid (fun W hW => holds_any r _ o W h (hv.below hW) (opVal_ok ho r.op))
  have c0 := block_cell (i := 0) hx rfl
  have c1 := block_cell (i := 1) hx rfl
  have c2 := block_cell (i := 2) hx rfl
  have c3 := block_cell (i := 3) hx rfl
  have c4 := block_cell (i := 4) hx rfl
  have hlt : cb < w.heap.size := (Array.getElem?_eq_some_iff.1 hx).1
  have HB := Lib.hid hB
  clear hB h hv hx
  unfold opV at HH
  go_enter Tryz.func123, Tryz.ntmps123
  go_wp2_with fail
  refine (HH.out _ HB.out).mono ?_
  rintro e w1 ⟨rfl, hb⟩
  have HB1 := Lib.hid (HB.out.trans (hb.mono HB.out.size))
  clear hb
  go_wp2_with fail
  go_ret
  exact ⟨rfl, HB1.out⟩
set_option maxHeartbeats 1000000 in
theorem holds1p_any (p : List Re) (v : Value) (o : Op5) (cb : Nat) (w : World) (h : PartOk p) (ho : OpOk o) (hv : RelR w v p) (hx : w.heap[cb]? = some (opO o)) :
    Calls Tryz.prog 121 #[v, .pointer (some ⟨cb, 0, none⟩)] w fun e w' => e = .returned (.bool (partHolds o p)) ∧ Below w.heap.size w w' := by
  obtain ⟨a, c, u, rfl, hu, hp⟩ := hv.places
  have hlt : cb < w.heap.size := (Array.getElem?_eq_some_iff.1 hx).1
  have hj := contRelNot a p.length c (fun i => p.getD i reZ) u (fun i => !relHolds o (p.getD i reZ)) cb w (by have := h.1; omega) (fun i hi => (hu i hi).form) hp (fun i hi W' hB' => holds11_any _ _ o cb W' (h.2 _ (mem_getD p reZ i hi)) ho ((hu i hi).below hB') ((hB'.block cb hlt).trans hx))
  rw [anyI_list (fun r => !relHolds o r) reZ p 0 _ (fun j hj => by rw [Nat.zero_add])] at hj
  obtain ⟨b, hb⟩ : ∃ b, b = p.any (fun r => !relHolds o r) := ⟨_, rfl⟩
  have hP : partHolds o p = !b := by rw [hb]; rfl
  rw [← hb] at hj
  rw [hP]
  have HJ := Lib.hid hj
  clear hj hu hp hv h hx hb hP
  go_enter Tryz.func121, Tryz.ntmps121
  go_wp2_with fail
  refine HJ.out.mono ?_
  rintro e w1 ⟨rfl, hb⟩
  have HB := Lib.hid hb
  clear hb
  go_wp2_with fail
  go_ret
  exact ⟨rfl, HB.out⟩
end Go.Proofs.YtnefcilopgcdpaaGreatDoor
