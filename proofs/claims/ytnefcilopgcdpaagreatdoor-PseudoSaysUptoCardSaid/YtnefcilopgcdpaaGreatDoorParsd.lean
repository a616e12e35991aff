/-
  rule.parsed: one relation out of its text.
-/
import Derived.Test.YtnefcilopgcdpaaGreatDoorParsB
import Derived.Deep.Cut
import Derived.Deep.DeepCutAuto
import Derived.Sort.CutIn
namespace Go.Proofs.YtnefcilopgcdpaaGreatDoor
open Go.RowKit Go.Shelf
attribute [local go_sem] Oper.semAt_some
attribute [local go_sem ↓] apd_at
set_option maxRecDepth 100000 in
set_option maxHeartbeats 4000000 in
theorem parsed_any (s : List UInt8) (w : World) (hs : s.length ≤ 100000) (hm : MW w) (hx : MaxAt w) :
    Calls Tryz.prog 117 #[.string ⟨s.toArray⟩] w fun e w' => (∃ v, e = .returned (.agg #[.int .u8 (relOf s).op, .int .i64 (relOf s).md, .bool (relOf s).no, v]) ∧ w'.ownsRow w.heap.size 237 2 v (relOf s).rs.length (rngCells (relOf s).rs)) ∧ Below w.heap.size w w' := by
  have HM := Lib.hid hm; have HX := Lib.hid hx
  obtain ⟨i0, hi0, hz0', hz1', hz2'⟩ := info_parts infoRng
  clear hm hx
  have HS := Lib.hid hs; clear hs
  refine (callsIn_wide (n := 9)).1 (callsIn_of_wp_marks Tryz.func117 rfl trivial ((wpIn_wide (n := 9)).2 ?_) rfl)
  simp only [Tryz.ntmps117, List.size_toArray, List.length_cons, List.length_nil, Nat.reduceAdd, Nat.reduceSub, Array.replicate_succ, Array.replicate_zero, List.push_toArray, List.append_toArray, List.nil_append, List.cons_append]
  go_wp2_with fail
  obtain ⟨wR, hwR⟩ : ∃ wR, wR = w.alloc (Obj.cells #[Value.int IntKind.u8 0, Value.int IntKind.i64 0, Value.bool false, Value.slice none 0 0] 203) := ⟨_, rfl⟩
  have hR : wR.heap[w.heap.size]? = some (Obj.cells #[Value.int IntKind.u8 0, Value.int IntKind.i64 0, Value.bool false, Value.slice none 0 0] 203) := by rw [hwR]; exact Go.heap_alloc_new w _
  have hB : Below w.heap.size w wR := by rw [hwR]; exact (Below.refl _ w).alloc (Nat.le_refl _) _
  rw [← hwR]
  clear hwR
  refine (cut_any s [32, 61, 32] wR HS.out (HX.out.below rfl hB)).mono ?_
  rintro e w1 ⟨rfl, hb1⟩
  have hlR : w.heap.size < wR.heap.size := (Array.getElem?_eq_some_iff.1 hR).1
  have hR1 := (hb1.block _ hlR).trans hR
  have hB1 := hB.trans (hb1.mono hB.size)
  have hlR1 : w.heap.size < w1.heap.size := Nat.lt_of_lt_of_le hlR hb1.size
  have HR := Lib.hid hR1; have HB := Lib.hid hB1
  clear hR hB hb1 hlR hR1 hB1
  obtain ⟨h0, t0, b0, hc⟩ : ∃ h0 t0 b0, Lib.cut s [32, 61, 32] = (h0, t0, b0) := ⟨_, _, _, rfl⟩
  rw [hc]
  have HC := Lib.hid hc; clear hc
  have hh : headOf s = if b0 then (h0, t0, false) else ((Lib.cut s [32, 33, 61, 32]).1, (Lib.cut s [32, 33, 61, 32]).2.1, true) := by unfold headOf; rw [HC.out]
  have hhl := head_len s
  obtain ⟨hd, tl, ng, hhd⟩ : ∃ hd tl ng, headOf s = (hd, tl, ng) := ⟨_, _, _, rfl⟩
  rw [hhd] at hh hhl
  have HH := Lib.hid hh; have HHL := Lib.hid hhl; have HHD := Lib.hid hhd
  clear hh hhl hhd
  go_upto_if 21 with fail
  obtain ⟨rb, hrb⟩ : ∃ rb, rb = w1.heap.size := ⟨_, rfl⟩
  have hb2 := Go.heap_alloc_new w1 (Obj.cells #[Value.int IntKind.u8 0, Value.int IntKind.i64 0, Value.bool false, Value.slice none 0 0] 203)
  have hR2 := (Go.heap_alloc_old w1 (Obj.cells #[Value.int IntKind.u8 0, Value.int IntKind.i64 0, Value.bool false, Value.slice none 0 0] 203) hlR1).trans HR.out
  have hB2 := HB.out.trans ((Below.refl w.heap.size w1).alloc HB.out.size (Obj.cells #[Value.int IntKind.u8 0, Value.int IntKind.i64 0, Value.bool false, Value.slice none 0 0] 203))
  rw [← hrb] at hb2 ⊢
  have hlt : w.heap.size < rb := by omega
  clear HR HB hlR1 hrb
  generalize w1.alloc (Obj.cells #[Value.int IntKind.u8 0, Value.int IntKind.i64 0, Value.bool false, Value.slice none 0 0] 203) = w2 at *
  go_cut [3, 4] from 14 (fun vh vt wx => vh = .string ⟨hd.toArray⟩ ∧ vt = .string ⟨tl.toArray⟩ ∧ Hid (wx.heap[w.heap.size]? = some (Obj.cells #[Value.int IntKind.u8 0, Value.int IntKind.i64 0, Value.bool false, Value.slice none 0 0] 203)) ∧ Hid (wx.heap[rb]? = some (Obj.cells #[Value.int IntKind.u8 0, Value.int IntKind.i64 0, Value.bool ng, Value.slice none 0 0] 203)) ∧ Hid (Below w.heap.size w wx))
  case first =>
    have HR := Lib.hid hR2; have HB := Lib.hid hB2
    clear hR2 hB2
    cases b0 with
    | true =>
      go_wp2_with fail
      go_meet
      case rel =>
        have h := HH.out
        simp only [if_true, Prod.mk.injEq] at h
        obtain ⟨rfl, rfl, rfl⟩ := h
        exact ⟨rfl, rfl, HR, Lib.hid hb2, HB⟩
    | false =>
      have h := HH.out
      simp only [Bool.false_eq_true, if_false, Prod.mk.injEq] at h
      obtain ⟨rfl, rfl, rfl⟩ := h
      have hl2 : rb < w2.heap.size := (Array.getElem?_eq_some_iff.1 hb2).1
      go_wp2_with fail
      refine (cut_any s [32, 33, 61, 32] w2 HS.out (HX.out.below rfl HB.out)).mono ?_
      rintro e w3 ⟨rfl, hb⟩
      have hk := (hb.block rb hl2).trans hb2
      have HR3 := Lib.hid ((hb.block _ (by omega)).trans HR.out)
      have HB3 := Lib.hid (HB.out.trans (hb.mono HB.out.size))
      have y2 : w3.cell? ⟨rb, 2, none⟩ = some (.bool false) := block_cell hk rfl
      have fz : w3.frozen? ⟨rb, 2, none⟩ = false := by simp [World.frozen?, hk]
      have HK := Lib.hid hk
      clear hb hb2 hl2 HR HB hk
      go_wp2_with fail
      go_meet
      case rel =>
        refine ⟨rfl, rfl, Lib.hid ?_, Lib.hid (Joins.block_setCell (i := 2) HK.out (.bool true)), Lib.hid ?_⟩
        · exact (heap_setCell_other w3 ⟨rb, 2, none⟩ _ _ (by show w.heap.size ≠ rb; omega)).trans HR3.out
        · exact below_grown HB3.out (keeps_set w3 rb 2 _) (fun k hk => by cases hk; omega) HB3.out.size
  case rest =>
    obtain ⟨rfl, rfl, HR, HK, HB⟩ := hcut
    clear HH HC hR2 hB2 hb2
    have hlb : rb < wc.heap.size := (Array.getElem?_eq_some_iff.1 HK.out).1
    go_wp2_with fail
    refine (cut_any hd [32, 37, 32] wc (by have := HS.out; have := HHL.out.1; omega) (HX.out.below rfl HB.out)).mono ?_
    rintro e w3 ⟨rfl, hb3⟩
    have hk3 := (hb3.block rb hlb).trans HK.out
    have HR3 := Lib.hid ((hb3.block _ (by omega)).trans HR.out)
    have HB3 := Lib.hid (HB.out.trans (hb3.mono HB.out.size))
    have hlb3 := Nat.lt_of_lt_of_le hlb hb3.size
    clear hb3 HR HB HK hlb
    obtain ⟨op, ml, dv, hop⟩ : ∃ op ml dv, Lib.cut hd [32, 37, 32] = (op, ml, dv) := ⟨_, _, _, rfl⟩
    have hopl := cut_len hd [32, 37, 32]
    rw [hop] at hopl ⊢
    have HOP := Lib.hid hop; have HOL := Lib.hid hopl
    clear hop hopl
    have hsz : (⟨op.toArray⟩ : ByteArray).size = op.length := by have := Lib.size_eq (⟨op.toArray⟩ : ByteArray); simpa using this
    go_upto_if 37 with fail
    generalize wc = wcOld at *
    go_cut [] from 14 (fun wx => Hid (wx.heap[w.heap.size]? = some (Obj.cells #[Value.int IntKind.u8 0, Value.int IntKind.i64 0, Value.bool false, Value.slice none 0 0] 203)) ∧ Hid (wx.heap[rb]? = some (Obj.cells #[Value.int IntKind.u8 (opOf op), Value.int IntKind.i64 0, Value.bool ng, Value.slice none 0 0] 203)) ∧ Hid (Below w.heap.size w wx))
    case first =>
      rcases op with _ | ⟨c, _ | ⟨d, l⟩⟩
      · have hq : ((([] : List UInt8).length : Int) == 1) = false := rfl
        go_wp2_with fail
        go_meet
        case rel => exact ⟨HR3, Lib.hid hk3, HB3⟩
      · have hq : ((([c] : List UInt8).length : Int) == 1) = true := rfl
        have y0 : w3.cell? ⟨rb, 0, none⟩ = some (.int .u8 0) := block_cell hk3 rfl
        have fz : w3.frozen? ⟨rb, 0, none⟩ = false := by simp [World.frozen?, hk3]
        have HK3 := Lib.hid hk3
        clear hk3
        go_wp2_with fail
        go_meet
        case rel =>
          refine ⟨Lib.hid ?_, Lib.hid (Joins.block_setCell (i := 0) HK3.out (.int .u8 (c.toNat : Int))), Lib.hid ?_⟩
          · exact (heap_setCell_other w3 ⟨rb, 0, none⟩ _ _ (by show w.heap.size ≠ rb; omega)).trans HR3.out
          · exact below_grown HB3.out (keeps_set w3 rb 0 _) (fun k hk => by cases hk; omega) HB3.out.size
      · have hq : (((c :: d :: l : List UInt8).length : Int) == 1) = false := by rw [beq_eq_false_iff_ne]; simp only [List.length_cons]; omega
        go_wp2_with fail
        go_meet
        case rel => exact ⟨HR3, Lib.hid hk3, HB3⟩
    case rest =>
      obtain ⟨HR4, HK4, HB4⟩ := hcut
      clear hsz hk3 HR3 HB3 hlb3
      go_upto_if 41 with fail
      go_cut [] from 14 (fun wx => Hid (wx.heap[w.heap.size]? = some (Obj.cells #[Value.int IntKind.u8 0, Value.int IntKind.i64 0, Value.bool false, Value.slice none 0 0] 203)) ∧ Hid (wx.heap[rb]? = some (Obj.cells #[Value.int IntKind.u8 (opOf op), Value.int IntKind.i64 (if dv then numR ml else 0), Value.bool ng, Value.slice none 0 0] 203)) ∧ Hid (Below w.heap.size w wx))
      case first =>
        cases dv with
        | false =>
          go_wp2_with fail
          go_meet
          case rel => exact ⟨HR4, HK4, HB4⟩
        | true =>
          have hl4 : rb < wc.heap.size := (Array.getElem?_eq_some_iff.1 HK4.out).1
          have HNu := Lib.hid (rnum_any ⟨ml.toArray⟩ wc (by
            have h1 := HS.out; have h2 := HHL.out.1; have h3 := HOL.out.2
            have h4 := Lib.size_eq (⟨ml.toArray⟩ : ByteArray)
            simp only at h4 h2
            omega) (HM.out.below HB4.out))
          go_wp2_with fail
          refine HNu.out.mono ?_
          rintro e w5 ⟨rfl, hb5⟩
          have hk5 := (hb5.block rb hl4).trans HK4.out
          have HR5 := Lib.hid ((hb5.block _ (by omega)).trans HR4.out)
          have HB5 := Lib.hid (HB4.out.trans (hb5.mono HB4.out.size))
          have y1 : w5.cell? ⟨rb, 1, none⟩ = some (.int .i64 0) := block_cell hk5 rfl
          have fz : w5.frozen? ⟨rb, 1, none⟩ = false := by simp [World.frozen?, hk5]
          have HK5 := Lib.hid hk5
          clear hk5 hb5 hl4 HR4 HK4 HB4
          go_wp2_with fail
          go_meet
          case rel =>
            refine ⟨Lib.hid ?_, Lib.hid (Joins.block_setCell (i := 1) HK5.out (.int .i64 (numR ml))), Lib.hid ?_⟩
            · exact (heap_setCell_other w5 ⟨rb, 1, none⟩ _ _ (by show w.heap.size ≠ rb; omega)).trans HR5.out
            · exact below_grown HB5.out (keeps_set w5 rb 1 _) (fun k hk => by cases hk; omega) HB5.out.size
      case rest =>
        obtain ⟨HR6, HK6, HB6⟩ := hcut
        clear HR4 HK4 HB4
        obtain ⟨md, hmd⟩ : ∃ md, md = if dv = true then numR ml else 0 := ⟨_, rfl⟩
        rw [← hmd] at HK6
        have HMD := Lib.hid hmd; clear hmd
        go_wp2_with fail
        refine (split_any ⟨tl.toArray⟩ ⟨#[44]⟩ wc).mono ?_
        rintro e w7 ⟨rfl, rfl⟩
        go_wp2_with fail
        have hlc : rb < wc.heap.size := (Array.getElem?_eq_some_iff.1 HK6.out).1
        have htl : tl.length ≤ 100000 := by have h1 := HS.out; have h2 := HHL.out.2; omega
        have hsw := seqW_size wc ⟨tl.toArray⟩ ⟨#[44]⟩
        have hbw := seqW_below wc ⟨tl.toArray⟩ ⟨#[44]⟩
        have hz0 := Lib.size_eq (⟨tl.toArray⟩ : ByteArray)
        have hwc : w.heap.size ≤ wc.heap.size := HB6.out.size
        have hmx := (HX.out.below rfl HB6.out).lt
        have hmw := HX.out.lt
        have hseq : ∀ n, 1 ≤ n → SeqC Fence.wide n Tryz.prog 176 (seqL wc) (fun x : List UInt8 => #[.string ⟨x.toArray⟩]) (split [44] tl) wc.heap.size (seqS wc) (seqW wc ⟨tl.toArray⟩ ⟨#[44]⟩) :=
          fun n hn => split_seq Fence.wide (Wide.wide _) rfl n hn ⟨tl.toArray⟩ ⟨#[44]⟩ wc (by intro h; cases h) (by decide) (by rw [hz0]; exact htl) (HX.out.below rfl HB6.out)
        have hPI : PI w rb wc.heap.size (opOf op) md ng [] (seqW wc ⟨tl.toArray⟩ ⟨#[44]⟩) (.slice none 0 0) :=
          ⟨(hbw.block rb hlc).trans HK6.out, World.ownsRow_nil _ _ _ _, (hbw.block w.heap.size (by omega)).trans HR6.out, ItAt.seq _ _ _, HB6.out.trans (hbw.mono HB6.out.size)⟩
        have HP0 := Lib.hid hPI
        have hspl := split_length (sep := [44]) (by simp) tl
        clear HK6 HR6 HB6 hbw hz0 hPI
        generalize seqW wc ⟨tl.toArray⟩ ⟨#[44]⟩ = w8 at *
        have hSl : ∀ k, seqS wc k → k < w8.heap.size := by
          intro k hk
          rcases hk with rfl | ⟨_, h⟩
          · omega
          · omega
        refine wp_seqc (gf := 176) rfl (enters_of Tryz.func176 (by kernel_rfl) rfl) hseq (by omega) hSl (fun _ => rfl)
          (fun pre W => ∃ v, PI w rb wc.heap.size (opOf op) md ng pre W v)
          ?own ?stores ?start (fun x => { tmps := #[.string ⟨s.toArray⟩, undef, .pointer (some ⟨w.heap.size, 0, none⟩), .string ⟨hd.toArray⟩, .string ⟨tl.toArray⟩, .bool b0, .pointer (some ⟨rb, 0, none⟩), .string ⟨op.toArray⟩, .string ⟨ml.toArray⟩, .bool dv, .string ⟨x.toArray⟩, undef, undef, undef, u14, u15, u16, u17, u18, u19, u20, u21, u22, u23, u24, u25, u26, u27, u28, u29, u30, u31, u32, u33, u34, u35, u36, u37, u38, u39, u40, u41, u42, u43, u44, .string ⟨tl.toArray⟩, .func (.func 176) #[] (seqL wc), .string ⟨x.toArray⟩, u48, u49, u50, u51, u52, u53, u54, u55, u56, u57, u58, u59, u60, u61, u62, u63, u64, u65, u66, u67], defers := [] }) ?assign ?body ?done
        case own => exact fun pre W W' row ⟨v, h⟩ hg hr => ⟨v, h.own (by omega) hg hr⟩
        case stores => exact fun pre W u ⟨v, h⟩ => ⟨v, h.stores (by omega) (by omega)⟩
        case start => exact ⟨_, HP0.out⟩
        case assign =>
          intro F l m x W K hF hro hK
          have hfn := hF.fn; have hdp := hF.dep
          clear hF
          gi_wp2
          exact hK
        case body =>
          rintro F l m pre x rest W hF hro hm1 hl hx hr ⟨v, hPv⟩
          have hxl := split_len (sep := [44]) (s := tl) (by simp) (show x ∈ split [44] tl by rw [hx]; simp)
          have hpl : pre.length ≤ 100001 := by rw [hx] at hspl; simp only [List.length_append, List.length_cons] at hspl; omega
          have hCc := Lib.hid (hF.calls (m - 1) _ _ _ _ (cut_any x [46, 46] W (by omega) (HX.out.below rfl hPv.below)))
          have hfn := hF.fn; have hdp := hF.dep
          have HC := Lib.hid hF.calls
          have hWl : w8.heap.size ≤ W.heap.size := by
            obtain ⟨r, h⟩ := hr
            have := (Array.getElem?_eq_some_iff.1 h).1
            omega
          have HPv := Lib.hid hPv; have HXx := Lib.hid hx; have HLr := Lib.hid hr; have HWl := Lib.hid hWl
          clear hF hPv hx hr hspl hWl
          obtain ⟨ca, cb, two, hcc⟩ : ∃ ca cb two, Lib.cut x [46, 46] = (ca, cb, two) := ⟨_, _, _, rfl⟩
          have hcl := cut_len x [46, 46]
          have hrg : rngOf x = if two then (numR ca, numR cb) else (numR ca, numR ca) := by unfold rngOf; rw [hcc]
          rw [hcc] at hCc hcl
          clear hcc
          obtain ⟨ce, hce⟩ : ∃ ce, ce = if two then cb else ca := ⟨_, rfl⟩
          have hrg2 : rngOf x = (numR ca, numR ce) := by rw [hrg, hce]; split <;> rfl
          have hca : ca.length ≤ 100000 := Nat.le_trans hcl.1 (by omega)
          have hcel : ce.length ≤ 100000 := by
            have h1 : ca.length ≤ x.length := hcl.1
            have h2 : cb.length ≤ x.length := hcl.2
            rw [hce]; split <;> omega
          have HRG := Lib.hid hrg2
          clear hrg hrg2 hcl
          have HNA := Lib.hid (fun (W : World) (k : Nat) (h : MW W) => HC.out k _ _ _ _ (rnum_any ⟨ca.toArray⟩ W (by have := Lib.size_eq (⟨ca.toArray⟩ : ByteArray); simp only at this; omega) h))
          have HNE := Lib.hid (fun (W : World) (k : Nat) (h : MW W) => HC.out k _ _ _ _ (rnum_any ⟨ce.toArray⟩ W (by have := Lib.size_eq (⟨ce.toArray⟩ : ByteArray); simp only at this; omega) h))
          have hmo : Tryz.prog.follows .mixedOrders = true := by kernel_rfl
          gi_upto_if 55 with (gi_at_call 114; refine hCc.out.mono ?_; rintro e w9 ⟨rfl, hb9⟩; dsimp only)
          gi_cut [12] from 56 (fun v9 wx => v9 = .string ⟨ce.toArray⟩ ∧ w9 = wx)
          case first =>
            cases two with
            | true =>
              simp only [if_true] at hce
              subst hce
              gi_wp2
              gi_meet
              case rel => exact ⟨rfl, rfl⟩
            | false =>
              simp only [Bool.false_eq_true, if_false] at hce
              subst hce
              gi_wp2
              gi_meet
              case rel => exact ⟨rfl, rfl⟩
          case rest =>
            obtain ⟨rfl, rfl⟩ := hcut
            clear hce
            have hlW : rb < W.heap.size := (Array.getElem?_eq_some_iff.1 HPv.out.rel).1
            have hk9 := (hb9.block rb hlW).trans HPv.out.rel
            have HK9 := Lib.hid hk9
            have y3 : w9.cell? ⟨rb, 3, none⟩ = some v := block_cell hk9 rfl
            have HB9 := Lib.hid (HPv.out.below.trans (hb9.mono HPv.out.below.size))
            have HO9 := Lib.hid (show w9.ownsRow w.heap.size 237 2 v (pre.map rngOf).length (rngCells (pre.map rngOf)) by rw [List.length_map]; exact owns_below HPv.out.row hb9)
            have HB99 := Lib.hid hb9
            clear hk9 hb9
            have hl9 : rb < w9.heap.size := (Array.getElem?_eq_some_iff.1 HK9.out).1
            gi_upto_region 16 with fail
            gi_region_with_o (first | (gi_at_call 151; refine (HNA.out _ _ (HM.out.below (HB9.out.trans (Below.refl _ w9).drew))).mono ?_; clear HNA; rintro e wk ⟨rfl, hbk⟩; have HKk := Lib.hid ((hbk.block rb hl9).trans HK9.out); have yk : wk.cell? ⟨rb, 3, none⟩ = some v := block_cell HKk.out rfl; have hl10 : rb < wk.heap.size := Nat.lt_of_lt_of_le hl9 hbk.size; have HBW := Lib.hid ((Below.refl _ w9).drew.trans hbk); clear hbk; dsimp only) | (gi_at_call 151; refine (HNE.out _ _ (HM.out.below (HB9.out.trans (HBW.out.mono HB9.out.size)))).mono ?_; clear HNE; rintro e wm ⟨rfl, hbm⟩; have HKm := Lib.hid ((hbm.block rb hl10).trans HKk.out); have ym : wm.cell? ⟨rb, 3, none⟩ = some v := block_cell HKm.out rfl; have ym' := keepCells ((Below.refl wm.heap.size wm).alloc (Nat.le_refl _) (.cells #[.int .i64 (numR ca), .int .i64 (numR ce)] 237)) _ _ _ ym; have HBX := Lib.hid (HBW.out.trans (hbm.mono HBW.out.size)); have hbms := hbm.size; clear hbm; obtain ⟨g, cap, wq, hrun, hoq, hgq, hkq⟩ := rng_step (numR ca, numR ce) HO9.out HB9.out.size HBX.out HKm.out (by rw [List.length_map]; exact hpl); rw [List.length_map] at hrun; dsimp only at hrun; have yq : wq.cell? ⟨rb, 3, none⟩ = some v := block_cell hkq rfl; have fq : wq.frozen? ⟨rb, 3, none⟩ = false := (by simp [World.frozen?, hkq]); have HKq := Lib.hid hkq; have HOQ := Lib.hid hoq; have HGQ := Lib.hid hgq; clear hkq hoq hgq; dsimp only))
            all_goals
              simp only [Exit.inBlock]
              exact PI.round HPv.out HRG.out HB99.out HBX.out HGQ.out (by have h := HOQ.out; rw [List.length_map] at h; exact h) hlt (by omega) (by omega) HWl.out hSl (fun k hk e => by rcases hk with rfl | ⟨h1, h2⟩ <;> omega) (fun k hk => by rcases hk with rfl | ⟨h1, h2⟩ <;> omega) (.inl (by omega))
        case done =>
          intro D W hD ⟨v, h⟩ hk
          have hrel := h.rel; have hres := h.res
          have HPv := Lib.hid h
          clear h
          simp only [Exit.inBlock, Exit.then]
          have a0 := block_cell (i := 0) hrel rfl
          have a1 := block_cell (i := 1) hrel rfl
          have a2 := block_cell (i := 2) hrel rfl
          have a3 := block_cell (i := 3) hrel rfl
          have z0 := block_cell (i := 0) hres rfl
          have z1 := block_cell (i := 1) hres rfl
          have z2 := block_cell (i := 2) hres rfl
          have z3 := block_cell (i := 3) hres rfl
          have f0 : W.frozen? ⟨w.heap.size, 0, none⟩ = false := by simp [World.frozen?, hres]
          have f1 : W.frozen? ⟨w.heap.size, 1, none⟩ = false := by simp [World.frozen?, hres]
          have f2 : W.frozen? ⟨w.heap.size, 2, none⟩ = false := by simp [World.frozen?, hres]
          have f3 : W.frozen? ⟨w.heap.size, 3, none⟩ = false := by simp [World.frozen?, hres]
          have HRES := Lib.hid hres; have HD := Lib.hid hk
          clear hrel hres hk
          obtain ⟨va, vn, vc, rfl⟩ : ∃ a n c, v = .slice a n c := by
            rcases HPv.out.row.2 with ⟨rfl, _⟩ | ⟨g, cap, cur, rfl, _⟩
            · exact ⟨_, _, _, rfl⟩
            · exact ⟨_, _, _, rfl⟩
          rename_i K hK
          refine hK _ _ ?_
          clear hK
          go_wp2_with fail
          have hrel' : relOf s = { op := opOf op, md := md, no := ng, rs := (split [44] tl).map rngOf } := by
            unfold relOf
            rw [HHD.out]
            simp only [HOP.out]
            rw [HMD.out]
          have hDn : D ≠ w.heap.size := by omega
          have b4 := Joins.block_setCell (i := 3) (Joins.block_setCell (i := 2) (Joins.block_setCell (i := 1) (Joins.block_setCell (i := 0) HRES.out (.int .u8 (opOf op))) (.int .i64 md)) (.bool ng)) (.slice va vn vc)
          have hnr : ∀ {W' : World} {cs : Array Value}, W'.heap[w.heap.size]? = some (.cells cs 203) → W'.ownsRow w.heap.size 237 2 (.slice va vn vc) (split [44] tl).length (rngCells ((split [44] tl).map rngOf)) → Value.ownBlock (.slice va vn vc) ≠ some w.heap.size := fun h1 h2 => own_ne h2 h1 (by decide)
          have r1 := row_set (i := 0) (u := .int .u8 (opOf op)) HPv.out.row (hnr HRES.out HPv.out.row)
          have r2 := row_set (i := 1) (u := .int .i64 md) r1 (hnr HRES.out HPv.out.row)
          have r3 := row_set (i := 2) (u := .bool ng) r2 (hnr HRES.out HPv.out.row)
          have r4 := row_set (i := 3) (u := .slice va vn vc) r3 (hnr HRES.out HPv.out.row)
          have bl := (((HPv.out.below.setCell (p := ⟨w.heap.size, 0, none⟩) (Nat.le_refl _) (.int .u8 (opOf op))).setCell (p := ⟨w.heap.size, 1, none⟩) (Nat.le_refl _) (.int .i64 md)).setCell (p := ⟨w.heap.size, 2, none⟩) (Nat.le_refl _) (.bool ng)).setCell (p := ⟨w.heap.size, 3, none⟩) (Nat.le_refl _) (.slice va vn vc)
          have hd4 := (heap_setCell_other _ ⟨w.heap.size, 3, none⟩ D (.slice va vn vc) hDn).trans ((heap_setCell_other _ ⟨w.heap.size, 2, none⟩ D (.bool ng) hDn).trans ((heap_setCell_other _ ⟨w.heap.size, 1, none⟩ D (.int .i64 md) hDn).trans ((heap_setCell_other W ⟨w.heap.size, 0, none⟩ D (.int .u8 (opOf op)) hDn).trans HD.out)))
          generalize (((W.setCell ⟨w.heap.size, 0, none⟩ (.int .u8 (opOf op))).setCell ⟨w.heap.size, 1, none⟩ (.int .i64 md)).setCell ⟨w.heap.size, 2, none⟩ (.bool ng)).setCell ⟨w.heap.size, 3, none⟩ (.slice va vn vc) = W4 at *
          have b5 := (World.putObj_heap_other (w := W4) (r := D) (o := .deferred none) hDn.symm).trans b4
          have r5 := ownsRow_putObj r4 (.deferred none) hd4 rfl
          have bl5 := below_grown bl (grownBy_putObj' W4 D (.deferred none)) (fun k e => by cases e; omega) bl.size
          have y0 := block_cell (i := 0) b5 rfl
          have y1 := block_cell (i := 1) b5 rfl
          have y2 := block_cell (i := 2) b5 rfl
          have y3 := block_cell (i := 3) b5 rfl
          refine bodyM_ret1 (v := .agg #[.int .u8 (opOf op), .int .i64 md, .bool ng, .slice va vn vc]) hd4 (by simp [results, Tryz.results117, go_sem, y0, y1, y2, y3]) ⟨⟨.slice va vn vc, ?_, ?_⟩, bl5⟩
          · rw [hrel']
          · rw [hrel']; simp only [List.length_map]; exact r5
end Go.Proofs.YtnefcilopgcdpaaGreatDoor
