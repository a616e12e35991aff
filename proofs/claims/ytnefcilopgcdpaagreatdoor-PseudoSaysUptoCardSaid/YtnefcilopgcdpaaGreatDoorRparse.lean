/-
  rule.Parse: a right rule out of its text.
-/
import Derived.Test.YtnefcilopgcdpaaGreatDoorParsC
import Derived.Test.YtnefcilopgcdpaaGreatDoorParsd
import Derived.Test.YtnefcilopgcdpaaGreatDoorRtext2
import Derived.Deep.Cut
import Derived.Deep.DeepCutAuto
import Derived.Sort.CutIn
namespace Go.Proofs.YtnefcilopgcdpaaGreatDoor
open Go.RowKit Go.Shelf
attribute [local go_sem] Oper.semAt_some
attribute [local go_sem ↓] apd_at

set_option maxRecDepth 100000 in
set_option maxHeartbeats 8000000 in
theorem parse_ok (s : List UInt8) (w : World) (hs : s.length ≤ 1000) (hok : RuleOk (ruleOf s)) (htx : ruleText (ruleOf s) = s) (hm : MW w) (hx : MaxAt w) :
    Calls Tryz.prog 93 #[.string ⟨s.toArray⟩] w fun e w' => (∃ v, e = .returned (.tuple #[v, .nilIface]) ∧ RuleR w' v (ruleOf s)) ∧ Below w.heap.size w w' := by
  have HM := Lib.hid hm; have HX := Lib.hid hx; have HOK := Lib.hid hok; have HTX := Lib.hid htx
  clear hm hx hok htx
  refine (callsIn_wide (n := 9)).1 (callsIn_of_wp_marks Tryz.func93 rfl trivial ((wpIn_wide (n := 9)).2 ?_) rfl)
  simp only [Tryz.ntmps93, List.size_toArray, List.length_cons, List.length_nil, Nat.reduceAdd, Nat.reduceSub, Array.replicate_succ, Array.replicate_zero, List.push_toArray, List.append_toArray, List.nil_append, List.cons_append]
  go_wp2_with fail
  obtain ⟨w1, hw1⟩ : ∃ w1, w1 = w.alloc (Obj.cells #[Value.slice none 0 0] 174) := ⟨_, rfl⟩
  have hO : w1.heap[w.heap.size]? = some (Obj.cells #[Value.slice none 0 0] 174) := by rw [hw1]; exact Go.heap_alloc_new w _
  have hB : Below w.heap.size w w1 := by rw [hw1]; exact (Below.refl _ w).alloc (Nat.le_refl _) _
  have hz1 : w1.heap.size = w.heap.size + 1 := by rw [hw1]; simp
  rw [← hw1]
  clear hw1
  refine (split_any ⟨s.toArray⟩ ⟨#[32, 111, 114, 32]⟩ w1).mono ?_
  rintro e w2 ⟨rfl, rfl⟩
  go_wp2_with fail
  have hsw := seqW_size w1 ⟨s.toArray⟩ ⟨#[32, 111, 114, 32]⟩
  have hbw := seqW_below w1 ⟨s.toArray⟩ ⟨#[32, 111, 114, 32]⟩
  have hz0 := Lib.size_eq (⟨s.toArray⟩ : ByteArray)
  have hmx := HX.out.lt
  have hseq : ∀ n, 1 ≤ n → SeqC Fence.wide n Tryz.prog 176 (seqL w1) (fun x : List UInt8 => #[.string ⟨x.toArray⟩]) (split [32, 111, 114, 32] s) w1.heap.size (seqS w1) (seqW w1 ⟨s.toArray⟩ ⟨#[32, 111, 114, 32]⟩) :=
    fun n hn => split_seq Fence.wide (Wide.wide _) rfl n hn ⟨s.toArray⟩ ⟨#[32, 111, 114, 32]⟩ w1 (by intro h; cases h) (by decide) (by rw [hz0]; simp only; omega) (HX.out.below rfl hB)
  have hPO : PO w w.heap.size w1.heap.size [] (seqW w1 ⟨s.toArray⟩ ⟨#[32, 111, 114, 32]⟩) (.slice none 0 0) [] :=
    ⟨(hbw.block _ (by omega)).trans hO, rfl, World.ownsRow_nil _ _ _ _, fun i hi => by simp at hi, ItAt.seq _ _ _, hB.trans (hbw.mono (by omega))⟩
  have HP0 := Lib.hid hPO
  have hspl := split_length (sep := [32, 111, 114, 32]) (by simp) s
  clear hbw hz0 hPO hO hB
  generalize seqW w1 ⟨s.toArray⟩ ⟨#[32, 111, 114, 32]⟩ = w2 at *
  have hSl : ∀ k, seqS w1 k → k < w2.heap.size := by
    intro k hk
    rcases hk with rfl | ⟨_, h⟩ <;> omega
  refine wp_seqc2 (gf := 176) rfl (enters_of Tryz.func176 (by kernel_rfl) rfl) hseq (by omega) hSl (fun _ => rfl)
    (fun pre W => ∃ v vs, PO w w.heap.size w1.heap.size pre W v vs)
    ?own ?stores ?start (fun x => { tmps := #[.string ⟨s.toArray⟩, undef, .slice none 0 0, .nilIface, .pointer (some ⟨w.heap.size, 0, none⟩), .string ⟨x.toArray⟩, undef, undef, undef, undef, .string ⟨s.toArray⟩, .func (.func 176) #[] (seqL w1), .string ⟨x.toArray⟩, undef, undef, undef, undef, undef, undef, undef, undef, undef, undef, undef, undef, undef, undef, undef, undef, undef, undef, undef, undef, undef, undef, undef, undef, undef, undef], defers := [] }) ?assign ?body ?done
  case own => exact fun pre W W' row ⟨v, vs, h⟩ hg hr => ⟨v, vs, h.own (by omega) hg hr⟩
  case stores => exact fun pre W u ⟨v, vs, h⟩ => ⟨v, vs, h.stores (by omega) (by omega)⟩
  case start => exact ⟨_, _, HP0.out⟩
  case assign =>
    intro l x W K hK
    have hfn := ((Wide.wide Tryz.prog).inRound l).fn; have hdp := ((Wide.wide Tryz.prog).inRound l).dep
    have hro : (Fence.wide.inRound l).round = some l := rfl
    gi_wp2
    exact hK
  case body =>
    rintro l pre x rest W hl hx hr ⟨v, vs, hPv⟩
    have hfn := ((Wide.wide Tryz.prog).inRound l).fn; have hdp := ((Wide.wide Tryz.prog).inRound l).dep
    have hro : (Fence.wide.inRound l).round = some l := rfl
    have HC := Lib.hid ((Wide.wide Tryz.prog).inRound l).calls
    have hxl := split_len (sep := [32, 111, 114, 32]) (s := s) (by simp) (show x ∈ split [32, 111, 114, 32] s by rw [hx]; simp)
    have hpl : pre.length ≤ 1001 := by rw [hx] at hspl; simp only [List.length_append, List.length_cons] at hspl; omega
    have hWl : w2.heap.size ≤ W.heap.size := by
      obtain ⟨r, h⟩ := hr
      have := (Array.getElem?_eq_some_iff.1 h).1
      omega
    have HPv := Lib.hid hPv; have HXx := Lib.hid hx; have HLr := Lib.hid hr; have HWl := Lib.hid hWl
    clear hPv hx hr hspl
    gi_wp2
    obtain ⟨W1, hW1⟩ : ∃ W1, W1 = W.alloc (Obj.cells #[Value.slice none 0 0] 200) := ⟨_, rfl⟩
    have hR : W1.heap[W.heap.size]? = some (Obj.cells #[Value.slice none 0 0] 200) := by rw [hW1]; exact Go.heap_alloc_new W _
    have hB1 : Below W.heap.size W W1 := by rw [hW1]; exact (Below.refl _ W).alloc (Nat.le_refl _) _
    have hz : W1.heap.size = W.heap.size + 1 := by rw [hW1]; simp
    rw [← hW1]
    clear hW1
    refine (HC.out _ _ _ _ _ (split_any ⟨x.toArray⟩ ⟨#[32, 97, 110, 100, 32]⟩ W1)).mono ?_
    rintro e W2 ⟨rfl, rfl⟩
    dsimp only
    gi_wp2
    have hBW := HPv.out.below
    have hsw2 := seqW_size W1 ⟨x.toArray⟩ ⟨#[32, 97, 110, 100, 32]⟩
    have hbw2 := seqW_below W1 ⟨x.toArray⟩ ⟨#[32, 97, 110, 100, 32]⟩
    have hz2 := Lib.size_eq (⟨x.toArray⟩ : ByteArray)
    have hX1 : MaxAt W1 := (HX.out.below rfl hBW).below rfl hB1
    have hws := hBW.size
    have hseq2 : SeqC (Fence.wide.inRound l) 6 Tryz.prog 176 (seqL W1) (fun x : List UInt8 => #[.string ⟨x.toArray⟩]) (split [32, 97, 110, 100, 32] x) W1.heap.size (seqS W1) (seqW W1 ⟨x.toArray⟩ ⟨#[32, 97, 110, 100, 32]⟩) :=
      SeqC.inRound l (split_seq Fence.wide (Wide.wide _) rfl 6 (by decide) ⟨x.toArray⟩ ⟨#[32, 97, 110, 100, 32]⟩ W1 (by intro h; cases h) (by decide) (by rw [hz2]; simp only; omega) hX1)
    have hPI : PIn W W.heap.size W1.heap.size [] (seqW W1 ⟨x.toArray⟩ ⟨#[32, 97, 110, 100, 32]⟩) (.slice none 0 0) [] :=
      ⟨(hbw2.block _ (by omega)).trans hR, rfl, World.ownsRow_nil _ _ _ _, fun i hi => by simp at hi, ItAt.seq _ _ _, hB1.trans (hbw2.mono (by omega))⟩
    have HPI := Lib.hid hPI
    have hspl2 := split_length (sep := [32, 97, 110, 100, 32]) (by simp) x
    obtain ⟨r0, hr0⟩ := HLr.out
    have hll : l < W.heap.size := (Array.getElem?_eq_some_iff.1 hr0).1
    have hl3 : (seqW W1 ⟨x.toArray⟩ ⟨#[32, 97, 110, 100, 32]⟩).heap[l]? = some (.loop r0) := (hPI.below.block l hll).trans hr0
    have HL3 := Lib.hid hl3
    clear hbw2 hz2 hPI hR hB1 hr0 hl3
    generalize seqW W1 ⟨x.toArray⟩ ⟨#[32, 97, 110, 100, 32]⟩ = W3 at *
    have hSl2 : ∀ k, seqS W1 k → k < W3.heap.size := by
      intro k hk
      rcases hk with rfl | ⟨_, h⟩ <;> omega
    have hwx := HX.out.lt
    refine wpIn_seqc_in rfl HL3.out (by decide) (gf := 176) rfl trivial (enters_of Tryz.func176 (by kernel_rfl) rfl) hseq2 (by omega) hSl2 (fun _ => rfl)
      (fun pre2 W' => ∃ v vs, PIn W W.heap.size W1.heap.size pre2 W' v vs)
      ?own2 ?stores2 ?start2 (fun y => { tmps := #[.string ⟨s.toArray⟩, undef, .slice none 0 0, .nilIface, .pointer (some ⟨w.heap.size, 0, none⟩), .string ⟨x.toArray⟩, .pointer (some ⟨W.heap.size, 0, none⟩), .string ⟨y.toArray⟩, undef, undef, .string ⟨s.toArray⟩, .func (.func 176) #[] (seqL w1), .string ⟨x.toArray⟩, .string ⟨x.toArray⟩, .func (.func 176) #[] (seqL W1), .string ⟨y.toArray⟩, undef, undef, undef, undef, undef, undef, undef, undef, undef, undef, undef, undef, undef, undef, undef, undef, undef, undef, undef, undef, undef, undef, undef], defers := [] }) ?assign2 ?body2 ?done2
    case own2 => exact fun pre2 W' W'' row ⟨v, vs, h⟩ hg hr => ⟨v, vs, h.own (by omega) hg hr⟩
    case stores2 => exact fun pre2 W' u ⟨v, vs, h⟩ => ⟨v, vs, h.stores (by omega) (by omega)⟩
    case start2 => exact ⟨_, _, HPI.out⟩
    case assign2 =>
      intro l2 y W' K hK
      have hfn := (((Wide.wide Tryz.prog).inRound l).inRound l2).fn; have hdp := (((Wide.wide Tryz.prog).inRound l).inRound l2).dep
      have hro : ((Fence.wide.inRound l).inRound l2).round = some l2 := rfl
      gi_wp2
      exact hK
    case body2 =>
      rintro l2 pre2 y rest2 W4 hl2 hx2 hr2 ⟨v2, vs2, hP2⟩
      have hfn := (((Wide.wide Tryz.prog).inRound l).inRound l2).fn; have hdp := (((Wide.wide Tryz.prog).inRound l).inRound l2).dep
      have hro : ((Fence.wide.inRound l).inRound l2).round = some l2 := rfl
      have hyl := split_len (sep := [32, 97, 110, 100, 32]) (s := x) (by simp) (show y ∈ split [32, 97, 110, 100, 32] x by rw [hx2]; simp)
      have hpl2 : pre2.length ≤ 1001 := by rw [hx2] at hspl2; simp only [List.length_append, List.length_cons] at hspl2; omega
      have hW4 : W3.heap.size ≤ W4.heap.size := by
        obtain ⟨r, h⟩ := hr2
        have := (Array.getElem?_eq_some_iff.1 h).1
        omega
      obtain ⟨va, vc, rfl, _⟩ := row_form hP2.row
      have HNP := Lib.hid (fun (W' : World) (k : Nat) (h1 : MW W') (h2 : MaxAt W') => (((Wide.wide Tryz.prog).inRound l).inRound l2).calls k _ _ _ _ (parsed_any y W' (by omega) h1 h2))
      have HP2 := Lib.hid hP2; have HW4 := Lib.hid hW4
      have HM4 := Lib.hid ((HM.out.below hBW).below hP2.below)
      have HX4 := Lib.hid ((HX.out.below rfl hBW).below rfl hP2.below)
      have hl4 : W.heap.size < W4.heap.size := (Array.getElem?_eq_some_iff.1 hP2.rel).1
      have y3 : W4.cell? ⟨W.heap.size, 0, none⟩ = some (.slice va pre2.length vc) := block_cell hP2.rel rfl
      have hmo : Tryz.prog.follows .mixedOrders = true := by kernel_rfl
      have ha1 : W.heap.size + 1 ≤ W1.heap.size ∧ W1.heap.size ≤ W.heap.size + 1 := by omega
      have ha2 : W1.heap.size + 3 ≤ W3.heap.size := by omega
      have ha3 : w.heap.size + 1 ≤ w1.heap.size := by omega
      clear hP2 hx2 hr2 hspl2 hW4 hz hsw2 hsw hz1
      gi_upto_region 7 with fail
      gi_region_with_o (first | (gi_at_call 117; refine (HNP.out _ _ (HM4.out.below (Below.refl _ W4).drew) (HX4.out.below rfl (Below.refl _ W4).drew)).mono ?_; clear HNP; rintro e wk ⟨⟨u, rfl, hu⟩, hbk⟩; obtain ⟨ua, uc, rfl, _⟩ := row_form hu; have HBk := Lib.hid ((Below.refl _ W4).drew.trans hbk); have hkk := (HBk.out.block W.heap.size hl4).trans HP2.out.rel; have yk : wk.cell? ⟨W.heap.size, 0, none⟩ = some (.slice va pre2.length vc) := block_cell hkk rfl; have yk' := keepCells ((Below.refl wk.heap.size wk).alloc (Nat.le_refl _) (.cells #[.int .u8 (relOf y).op, .int .i64 (relOf y).md, .bool (relOf y).no, .slice ua (relOf y).rs.length uc] 203)) _ _ _ yk; obtain ⟨g, cap, wq, hrun, hoq, hgq, hkq⟩ := rel_step (relOf y).op (relOf y).md (relOf y).no ua (relOf y).rs.length uc (owns_below HP2.out.row HBk.out) (by have := HBk.out.size; omega) (Below.refl _ wk) hkk (by omega); have yq : wq.cell? ⟨W.heap.size, 0, none⟩ = some (.slice va pre2.length vc) := block_cell hkq rfl; have fq : wq.frozen? ⟨W.heap.size, 0, none⟩ = false := (by simp [World.frozen?, hkq]); have HU := Lib.hid hu; have HOQ := Lib.hid hoq; have HGQ := Lib.hid hgq; clear hkk hkq hoq hgq hbk hu; dsimp only))
      all_goals
        exact PIn.round HP2.out HBk.out HU.out HGQ.out HOQ.out (by omega) (by omega) (by omega) HW4.out hSl2 (fun k hk e => by rcases hk with rfl | ⟨h1, h2⟩ <;> omega) (fun k hk => by rcases hk with rfl | ⟨h1, h2⟩ <;> omega) (.inl (by omega))
    case done2 =>
      rintro W5 ⟨v2, vs2, hP2⟩
      have hfn := ((Wide.wide Tryz.prog).inRound l).fn; have hdp := ((Wide.wide Tryz.prog).inRound l).dep
      have hro : (Fence.wide.inRound l).round = some l := rfl
      have hrd : RelR W5 v2 (relsOf x) := hP2.done
      obtain ⟨va, vm, vc, rfl⟩ := hrd.form
      obtain ⟨oa, oc, hov, hovc⟩ := row_form HPv.out.row
      clear hovc
      subst hov
      have hol : w.heap.size < W.heap.size := by omega
      have k0 := (hP2.below.block w.heap.size hol).trans HPv.out.out
      have y0 : W5.cell? ⟨w.heap.size, 0, none⟩ = some (.slice oa pre.length oc) := block_cell k0 rfl
      have y1 : W5.cell? ⟨W.heap.size, 0, none⟩ = some (.slice va vm vc) := block_cell hP2.rel rfl
      have hws5 := hP2.below.size
      obtain ⟨g, cap, wq, hrun, hoq, hgq, hkq⟩ := part_step va vm vc (World.ownsRow.kept HPv.out.row (grown_of_below hP2.below none) (by cases hv : (Value.slice oa pre.length oc).ownBlock with
        | none => exact .inl rfl
        | some k => exact .inr (by simp))) (by omega) (Below.refl _ W5) k0 (by omega)
      have yq : wq.cell? ⟨w.heap.size, 0, none⟩ = some (.slice oa pre.length oc) := block_cell hkq rfl
      have fq : wq.frozen? ⟨w.heap.size, 0, none⟩ = false := by simp [World.frozen?, hkq]
      have HOQ := Lib.hid hoq; have HGQ := Lib.hid hgq; have HRD := Lib.hid hrd; have HP5 := Lib.hid hP2
      have ha2 : W1.heap.size + 3 ≤ W3.heap.size := by omega
      have ha3 : w.heap.size + 1 ≤ w1.heap.size := by omega
      have hb3 : w1.heap.size + 3 ≤ w2.heap.size := by omega
      clear hoq hgq hrd hP2 hkq k0 hz hsw2 hsw hz1 hws5 hspl2 hseq2 hseq HPI
      simp only [Exit.inBlock, Exit.then]
      rename_i K hK
      refine hK _ _ ?_
      clear hK
      gi_wp2
      exact PO.round HPv.out HP5.out.below HRD.out HGQ.out HOQ.out (Nat.le_refl _) (by omega) (by omega) HWl.out hSl (fun k hk e => by rcases hk with rfl | ⟨h1, h2⟩ <;> omega) (fun k hk => by rcases hk with rfl | ⟨h1, h2⟩ <;> omega) (.inl (by omega))
  case done =>
    intro D W hD ⟨v, vs, h⟩ hk
    have hrr : RuleR W v (ruleOf s) := h.done
    obtain ⟨va, vc, vu, rfl, hvu⟩ := hrr.places
    clear hvu
    have y0 : W.cell? ⟨w.heap.size, 0, none⟩ = some (.slice va (ruleOf s).length vc) := block_cell h.out rfl
    have hws := h.below.size
    have HT := Lib.hid (rtext_ok (ruleOf s) _ W HOK.out hrr (HM.out.below h.below))
    rw [HTX.out] at HT
    have HP := Lib.hid h; have HR := Lib.hid hrr; have HK := Lib.hid hk
    have hwl : w.heap.size < W.heap.size := (Array.getElem?_eq_some_iff.1 h.out).1
    have hDl : D < W.heap.size := (Array.getElem?_eq_some_iff.1 hk).1
    have hwD : w.heap.size ≤ D := by omega
    clear h hrr hk HP0 hseq hsw hz1 hspl
    simp only [Exit.inBlock, Exit.then]
    rename_i K hK
    refine hK _ _ ?_
    clear hK
    go_wp2_with fail
    refine HT.out.mono ?_
    rintro e W6 ⟨rfl, hb⟩
    have y6 := (hb.cell (p := ⟨w.heap.size, 0, none⟩) hwl).trans y0
    have HD6 := Lib.hid ((hb.block D hDl).trans HK.out)
    have HB6 := Lib.hid (HP.out.below.trans (hb.mono hws))
    have HR6 := Lib.hid (HR.out.below hb)
    clear hb y0 HT HR HK
    go_wp2_with fail
    have hg := grownBy_putObj' W6 D (.deferred none)
    have hr2 : ∀ r, some D = some r → ∃ o : Obj, W6.heap[r]? = some o ∧ o.isCells = false := fun r e => by cases e; exact ⟨_, HD6.out, rfl⟩
    have bl6 := below_grown HB6.out hg (fun k e => by cases e; omega) HB6.out.size
    refine bodyM_ret1 (v := .tuple #[.slice va (ruleOf s).length vc, .nilIface]) HD6.out (by simp [results, Tryz.results93, go_sem]) ⟨⟨_, rfl, ?_⟩, bl6⟩
    obtain ⟨vs', q1, q2, q3⟩ := HR6.out
    refine ⟨vs', q1, row_own q2 hg hr2, fun i hi => (q3 i hi).grown hg (fun k cs t f e hk => ?_)⟩
    obtain ⟨o, ho, hc⟩ := hr2 k e
    rw [hk] at ho; cases ho; cases hc
end Go.Proofs.YtnefcilopgcdpaaGreatDoor
