/-
  names.needs.all, names.of.
  names.of: all that a message needs.
-/
import Derived.Test.YtnefcilopgcdpaaGreatDoorNadd
import Derived.Test.YtnefcilopgcdpaaGreatDoorSize
import Derived.Test.YtnefcilopgcdpaaGreatDoorChk
import Derived.Test.YtnefcilopgcdpaaGreatDoorPmes
namespace Go.Proofs.YtnefcilopgcdpaaGreatDoor
open Go.RowKit Ms

theorem addNeed_len (l : List Need) (k : Int) (x : List UInt8) : (addNeed l k x).length ≤ l.length + 1 := by
  unfold addNeed addNew
  split
  · omega
  · rw [List.length_modify]
    split
    · omega
    · simp
theorem needsT_len : ∀ (t : T) (l : List Need), (needsT t l).length ≤ l.length + cnt t
  | .nil, l => by simp [needsT]
  | .node k x f cs nx, l => by
    have h1 := addNeed_len l k x
    by_cases hc : hasC k = true
    · have h2 := needsT_len cs (addNeed l k x)
      have h3 := needsT_len nx (needsT cs (addNeed l k x))
      simp only [needsT, cnt, hc, if_true]; omega
    · have h3 := needsT_len nx (addNeed l k x)
      simp only [needsT, cnt, hc, if_false, Bool.false_eq_true]; omega
  | .case key body nx, l => by
    have h2 := needsT_len body l
    have h3 := needsT_len nx (needsT body l)
    simp only [needsT, cnt]; omega
def AllIH (N : Nat) : Prop := ∀ (t : T) (v : Value) (w0 w : World) (lb : Nat) (l : List Need), sz t < N → isN t = true → wt t ≤ 2100000 → SV w0 v t → Below w0.heap.size w0 w → w0.heap.size ≤ lb → NA lb l w → l.length + cnt t ≤ 1000000 →
  Calls Tryz.prog 38 #[.pointer (some ⟨lb, 0, none⟩), v] w fun e w' => e = .returned (.tuple #[]) ∧ NA lb (needsT t l) w' ∧ FB lb w w'
set_option maxRecDepth 100000 in
set_option maxHeartbeats 8000000 in
theorem all_step (N : Nat) (IH : AllIH N) (t : T) (v : Value) (w0 w : World) (lb : Nat) (l : List Need) (hz : sz t ≤ N) (hn : isN t = true) (hw : wt t ≤ 2100000) (hs : SV w0 v t) (hb0 : Below w0.heap.size w0 w) (hlb : w0.heap.size ≤ lb) (hN : NA lb l w) (hll : l.length + cnt t ≤ 1000000) :
    Calls Tryz.prog 38 #[.pointer (some ⟨lb, 0, none⟩), v] w fun e w' => e = .returned (.tuple #[]) ∧ NA lb (needsT t l) w' ∧ FB lb w w' := by
  obtain ⟨a, n, c, rfl, hnl, hfr⟩ := nodesFrom_start hs
  have hlw := len_wt t
  have hn2 : n ≤ 2100000 := by omega
  obtain ⟨L, hL⟩ : ∃ L, L = needsT t l := ⟨_, rfl⟩
  rw [← hL]
  have hlw2 := hN.lt
  have HIH := Lib.hid IH; have HB0 := Lib.hid hb0; have HN0 := Lib.hid hN
  have HT0 := Lib.hid (show NodesFrom w0 a n 0 t ∧ isN t = true ∧ sz t ≤ sz t ∧ wt t ≤ wt t ∧ needsT t l = L ∧ l.length + cnt t ≤ 1000000 from ⟨hfr, hn, Nat.le_refl _, Nat.le_refl _, hL.symm, hll⟩)
  have HZ := Lib.hid hz; have HW := Lib.hid hw
  clear IH hn hfr hz hw hs hlw hnl hb0 hN hL hll
  go_enter Tryz.func38, Tryz.ntmps38
  go_wp2_with fail
  go_loopw [10] (fun i wr => ∃ (i' : Nat) (t' : T) (l' : List Need), i' ≤ n ∧ i = .int .i64 i' ∧ Hid (NodesFrom w0 a n i' t' ∧ isN t' = true ∧ sz t' ≤ sz t ∧ wt t' ≤ wt t ∧ needsT t' l' = L ∧ l'.length + cnt t' ≤ 1000000) ∧ Hid (NA lb l' wr) ∧ Hid (FB lb w wr)) (fun i _ => n - (intOf i).toNat)
  case atStart => exact ⟨0, t, l, by omega, rfl, HT0, HN0, Lib.hid (FB.refl _ _)⟩
  case round =>
    clear HT0 HN0
    obtain ⟨i, t', l', hin, rfl, HT, HNA, HF⟩ := hrel
    by_cases hlt : i < n
    · obtain ⟨hf1, hn1, hs1, hw1, hnt, hlc⟩ := HT.out
      obtain ⟨k, x, f, cs, nx, b, o, v, rfl, rfl, q0, q1, q2, q3, hsv, hnext⟩ := nodesFrom_next hf1 hlt hn1
      obtain ⟨a9, n9, c9, rfl⟩ := hsv.form
      have hBw := HB0.out.trans (HF.out.below.mono hlb)
      have kc := keepCells hBw
      have k0 := kc _ _ _ q0; have k1 := kc _ _ _ q1; have k2 := kc _ _ _ q2; have k3 := kc _ _ _ q3
      obtain ⟨hncs, hnnx⟩ := isN_node hn1
      obtain ⟨vc, hvc⟩ : ∃ vc : Value, vc = if hasC k = true then .slice a9 n9 c9 else .slice none 0 0 := ⟨_, rfl⟩
      have hCa := Lib.hid (mcases_val k f x (.slice a9 n9 c9) vc hvc)
      obtain ⟨cs', hcs'⟩ : ∃ cs' : T, cs' = if hasC k = true then cs else .nil := ⟨_, rfl⟩
      have hS2 := cases_sv hsv hvc
      rw [← hcs'] at hS2
      obtain ⟨a2, n2, c2, rfl, hl2, hfr2⟩ := casesFrom_start hS2
      have hal := addNeed_len l' k x
      have hcc : cnt (.node k x f cs nx) = 1 + cnt cs' + cnt nx := by rw [cnt_node, hcs']; split <;> rfl
      have hne : needsT nx (needsT cs' (addNeed l' k x)) = L := by
        rw [← hnt, hcs']
        show _ = needsT nx (if hasC k = true then needsT cs (addNeed l' k x) else addNeed l' k x)
        split <;> rfl
      have hcsn : isN.isC cs' = true := by rw [hcs']; split; exact hncs; rfl
      have hcsz : sz cs' ≤ sz cs := by rw [hcs']; split <;> simp [sz]
      have hcsw : wt cs' ≤ wt cs := by
        rw [hcs']; split
        · exact Nat.le_refl _
        · have : 1 ≤ wt cs := by cases cs <;> simp only [wt] <;> omega
          simpa [wt] using this
      have hls1 := HNA.out.lt
      have hwa := (Below.refl wr.heap.size wr).alloc (Nat.le_refl _) (Obj.cells #[.int .i64 k, .string ⟨x.toArray⟩, .int .i64 f, .slice a9 n9 c9] 60)
      have hwk := Go.heap_alloc_new wr (Obj.cells #[.int .i64 k, .string ⟨x.toArray⟩, .int .i64 f, .slice a9 n9 c9] 60)
      have hadd := add_any lb l' k f x a9 n9 c9 (wr.alloc (Obj.cells #[.int .i64 k, .string ⟨x.toArray⟩, .int .i64 f, .slice a9 n9 c9] 60)) (by omega) (HNA.out.below hwa)
      have HAD := Lib.hid hadd; have HWK := Lib.hid hwk
      have HFa := Lib.hid (HF.out.trans (FB.of_below hwa (by omega)))
      obtain ⟨xb, hxb⟩ : ∃ xb, xb = wr.heap.size := ⟨_, rfl⟩
      have hxl : lb < xb := by omega
      have HI := Lib.hid (show isN.isC cs' = true ∧ sz cs' ≤ sz cs ∧ wt cs' ≤ wt cs ∧ needsT nx (needsT cs' (addNeed l' k x)) = L ∧ (addNeed l' k x).length + cnt cs' + cnt nx ≤ 1000000 from ⟨hcsn, hcsz, hcsw, hne, by omega⟩)
      have HNX := Lib.hid hnext; have HNN := Lib.hid hnnx; have HSZ := Lib.hid hs1; have HWT := Lib.hid hw1; have HF2 := Lib.hid hfr2; have HL2 := Lib.hid hl2; have HXB := Lib.hid hxb
      clear q0 q1 q2 q3 hf1 hn1 hs1 hw1 hnt hlc hsv hnext kc hncs hnnx hvc hcs' hS2 hl2 hfr2 hal hcc hne hcsn hcsz hcsw hwa hwk hadd hxb HT
      go_wp2_with fail
      refine HAD.out.mono ?_
      rintro e w1 ⟨rfl, hNA1, hFB1⟩
      have hx1 := hFB1.tf _ _ _ _ HWK.out (by decide) (by omega)
      have HN1 := Lib.hid hNA1
      have HF1 := Lib.hid (HFa.out.trans hFB1)
      have y0 := block_cell (i := 0) hx1 rfl
      have y1 := block_cell (i := 1) hx1 rfl
      have y2 := block_cell (i := 2) hx1 rfl
      have y3 := block_cell (i := 3) hx1 rfl
      clear hNA1 hFB1 hx1 HAD HFa HWK k0 k1 k2 k3
      go_wp2_with fail
      refine (hCa.out _).mono ?_
      rintro e w2 ⟨rfl, hb⟩
      have hls2 := HN1.out.lt
      have HN2 := Lib.hid (HN1.out.below hb)
      have HFw2 := Lib.hid (HF1.out.trans (FB.of_below hb (by omega)))
      clear hb y0 y1 y2 y3 HN1 HF1 hls2
      go_wp2_with fail
      have hn22 : n2 ≤ 2100000 := by
        have h1 := HI.out.2.2.1; have h2 := HWT.out; have h3 := HW.out; have h4 := HL2.out; have h5 := len_wt cs'
        simp only [wt] at h2
        omega
      have HSZ2 := Lib.hid (show sz cs < N by have h1 := HSZ.out; have h2 := HZ.out; simp only [sz] at h1; omega)
      have HWT2 := Lib.hid (show wt cs ≤ 2100000 by have h1 := HWT.out; have h2 := HW.out; simp only [wt] at h1; omega)
      have HSZn := Lib.hid (show sz nx ≤ sz t ∧ wt nx ≤ wt t by have h1 := HSZ.out; have h2 := HWT.out; simp only [sz] at h1; simp only [wt] at h2; omega)
      obtain ⟨wo, hwo⟩ : ∃ wo : World, wo = wr := ⟨_, rfl⟩
      rw [← hwo]
      clear hwo
      go_loopw [20] (fun j wr => ∃ (j' : Nat) (t2 : T) (l2 : List Need), j' ≤ n2 ∧ j = .int .i64 j' ∧ Hid (CasesFrom w0 a2 n2 j' t2 ∧ isN.isC t2 = true ∧ sz t2 ≤ sz cs ∧ wt t2 ≤ wt cs ∧ needsT nx (needsT t2 l2) = L ∧ l2.length + cnt t2 + cnt nx ≤ 1000000) ∧ Hid (NA lb l2 wr) ∧ Hid (FB lb w wr)) (fun j _ => n2 - (intOf j).toNat)
      case atStart => exact ⟨0, cs', addNeed l' k x, by omega, rfl, Lib.hid ⟨HF2.out, HI.out.1, HI.out.2.1, HI.out.2.2.1, HI.out.2.2.2.1, HI.out.2.2.2.2⟩, HN2, HFw2⟩
      case round =>
        clear HN2 HFw2
        obtain ⟨j, t2, l2, hjn, rfl, HT2, HNA2, HFB2⟩ := hrel
        by_cases hjl : j < n2
        · obtain ⟨g1, g2, g3, g4, g5, g6⟩ := HT2.out
          obtain ⟨key, body, nx2, b2, o2, v2, rfl, rfl, p0, p1, hsv2, hnext2⟩ := casesFrom_next g1 hjl g2
          obtain ⟨va, vn, vcap, rfl⟩ := hsv2.form
          have hBw2 := HB0.out.trans (HFB2.out.below.mono hlb)
          have kc2 := keepCells hBw2
          have r0 := kc2 _ _ _ p0; have r1 := kc2 _ _ _ p1
          obtain ⟨hnb, hnn2⟩ := isC_case g2
          have hls3 := HNA2.out.lt
          have hwa2 := (Below.refl wr.heap.size wr).alloc (Nat.le_refl _) (Obj.cells #[.string ⟨key.toArray⟩, .slice va vn vcap] 62)
          have hcnt : cnt (.case key body nx2) = cnt body + cnt nx2 := rfl
          have hlen := needsT_len body l2
          have hsb : sz body < N := by have h1 := HSZ2.out; simp only [sz] at g3; omega
          have hwb : wt body ≤ 2100000 := by have h1 := HWT2.out; simp only [wt] at g4; omega
          have hcall := Lib.hid (HIH.out body (.slice va vn vcap) w0 (wr.alloc (Obj.cells #[.string ⟨key.toArray⟩, .slice va vn vcap] 62)) lb l2 hsb hnb hwb hsv2 (hBw2.trans (hwa2.mono (by have := hBw2.size; omega))) hlb (HNA2.out.below hwa2) (by omega))
          have HFc := Lib.hid (HFB2.out.trans (FB.of_below hwa2 (by omega)))
          have HNx2 := Lib.hid (show CasesFrom w0 (some ⟨b2, o2, none⟩) n2 (j + 1) nx2 ∧ isN.isC nx2 = true ∧ sz nx2 ≤ sz cs ∧ wt nx2 ≤ wt cs ∧ needsT nx (needsT nx2 (needsT body l2)) = L ∧ (needsT body l2).length + cnt nx2 + cnt nx ≤ 1000000 from ⟨hnext2, hnn2, by simp only [sz] at g3; omega, by simp only [wt] at g4; omega, g5, by omega⟩)
          clear g1 g2 g3 g4 g5 g6 p0 p1 hsv2 hnext2 kc2 hnb hnn2 hwa2 hcnt hlen hsb hwb hBw2 HT2
          go_wp2_with fail
          refine hcall.out.mono ?_
          rintro e w4 ⟨rfl, hNA4, hFB4⟩
          have HN4 := Lib.hid hNA4
          have HF4 := Lib.hid (HFc.out.trans hFB4)
          clear hNA4 hFB4 r0 r1 hcall HFc
          go_wp2_with fail
          go_roundw
          case rel => exact ⟨j + 1, nx2, needsT body l2, by omega, by go_num, HNx2, HN4, HF4⟩
          case measure => simp [intOf]; omega
        · obtain rfl : j = n2 := by omega
          obtain ⟨g1, _, _, _, g5, g6⟩ := HT2.out
          have hnil := casesFrom_end g1
          subst hnil
          have HE2 := Lib.hid (show needsT nx l2 = L ∧ l2.length + cnt nx ≤ 1000000 from ⟨g5, by simpa [cnt] using g6⟩)
          clear g1 g5 g6
          go_wp2_with fail
          go_roundw
          case rel => exact ⟨i + 1, nx, l2, by omega, by go_num, Lib.hid ⟨HNX.out, HNN.out, HSZn.out.1, HSZn.out.2, HE2.out.1, HE2.out.2⟩, HNA2, HFB2⟩
          case measure => simp [intOf]; omega
    · obtain rfl : i = n := by omega
      obtain ⟨hf1, _, _, _, hnt, _⟩ := HT.out
      have hnil := nodesFrom_end hf1
      subst hnil
      have HE := Lib.hid (show l' = L from hnt)
      clear hf1 hnt
      go_wp2_with fail
      go_end0
      exact ⟨rfl, by rw [← HE.out]; exact HNA.out, HF.out⟩
end Go.Proofs.YtnefcilopgcdpaaGreatDoor
namespace Go.Proofs.YtnefcilopgcdpaaGreatDoor
open Go.RowKit Ms

theorem all_any : ∀ N, AllIH N
  | 0 => fun _ _ _ _ _ _ hz => absurd hz (Nat.not_lt_zero _)
  | N + 1 => fun t v w0 w lb l hz hn hw hs hb hl hN hc => all_step N (all_any N) t v w0 w lb l (by omega) hn hw hs hb hl hN hc
/-- a slice that reads as needs -/
def NR (v : Value) (l : List Need) (W : World) : Prop := ∃ a c, v = .slice a l.length c ∧ (l.length = 0 ∨ ∃ g, a = some ⟨g, 0, none⟩ ∧ ∀ i, i < l.length → W.cell? ⟨g, i * 3, none⟩ = some (.string ⟨(l.getD i nz).nm.toArray⟩) ∧ W.cell? ⟨g, i * 3 + 1, none⟩ = some (.bool (l.getD i nz).num) ∧ W.cell? ⟨g, i * 3 + 2, none⟩ = some (.bool (l.getD i nz).text))
theorem NR.below {v : Value} {l : List Need} {W W' : World} (h : NR v l W) (hb : Below W.heap.size W W') : NR v l W' := by
  obtain ⟨a, c, rfl, h⟩ := h
  refine ⟨a, c, rfl, ?_⟩
  rcases h with h | ⟨g, rfl, hc⟩
  · exact .inl h
  · have k := keepCells hb
    exact .inr ⟨g, rfl, fun i hi => ⟨k _ _ _ (hc i hi).1, k _ _ _ (hc i hi).2.1, k _ _ _ (hc i hi).2.2⟩⟩
theorem NR.of_na {lb : Nat} {l : List Need} {W : World} (h : NA lb l W) : ∃ v, W.heap[lb]? = some (.cells #[v] 71) ∧ NR v l W := by
  obtain ⟨v, hv, hr⟩ := h
  obtain ⟨a, c, rfl, hp⟩ := row_form hr
  refine ⟨_, hv, a, c, rfl, ?_⟩
  rcases hp with h0 | ⟨g, rfl, _, _, _, hc⟩
  · exact .inl h0
  · refine .inr ⟨g, rfl, fun i hi => ?_⟩
    obtain ⟨q0, q1, q2⟩ := needCells_at l i hi
    have e0 := hc _ _ q0; have e1 := hc _ _ q1; have e2 := hc _ _ q2
    rw [Nat.zero_add] at e0 e1 e2
    exact ⟨e0, e1, e2⟩
set_option maxHeartbeats 1000000 in
theorem of1_any (n : Need) (w : World) :
    Calls Tryz.prog 40 #[.agg #[.string ⟨n.nm.toArray⟩, .bool n.num, .bool n.text]] w fun e w' => e = .returned (.bool (n.num && n.text)) ∧ Below w.heap.size w w' := by
  have HB := Lib.hid ((Below.refl w.heap.size w).alloc (Nat.le_refl _) (Obj.cells #[.string ⟨n.nm.toArray⟩, .bool n.num, .bool n.text] 79))
  obtain ⟨nm, num, tx⟩ := n
  dsimp only at HB ⊢
  cases num with
  | true =>
    go_enter Tryz.func40, Tryz.ntmps40
    go_wp2_with fail
    go_ret
    exact ⟨rfl, HB.out⟩
  | false =>
    go_enter Tryz.func40, Tryz.ntmps40
    go_wp2_with fail
    go_ret
    exact ⟨rfl, HB.out⟩
theorem fault0_cnt {t : T} (h : fault t = 0) : cnt t ≤ 60 := by
  unfold fault at h
  by_cases hb : big t 0 = true
  · rw [if_pos hb] at h; cases h
  · apply Nat.le_of_not_lt
    intro hc
    exact hb (big_of_cnt hc)
set_option maxRecDepth 100000 in
set_option maxHeartbeats 2000000 in
theorem of_any (t : T) (v : Value) (w : World) (hn : isN t = true) (hw : wt t ≤ 2100000) (hm : MW w) (hs : SV w v t) :
    Calls Tryz.prog 26 #[v] w fun e w' => (∃ v', e = .returned (.tuple #[v', errVal (ofFault t)]) ∧ (ofFault t = 0 → NR v' (needsT t []) w')) ∧ Below w.heap.size w w' := by
  obtain ⟨a1, n1, c1, rfl⟩ := hs.form
  have HC := Lib.hid (mcheck_any t (.slice a1 n1 c1) w hn hw hm hs)
  by_cases hf : fault t = 0
  · have hc60 := fault0_cnt hf
    have hlen := needsT_len t []
    have hl2 : (needsT t []).length ≤ 60 := by simp only [List.length_nil] at hlen; omega
    have HA := Lib.hid (fun W lb (hB : Below w.heap.size w W) (hl : w.heap.size ≤ lb) (hN : NA lb [] W) => all_any (sz t + 1) t (.slice a1 n1 c1) w W lb [] (Nat.lt_succ_self _) hn hw hs hB hl hN (by simp only [List.length_nil]; omega))
    rw [hf, errVal_0] at HC
    have hof : ofFault t = if (needsT t []).any (fun n => n.num && n.text) then 7 else 0 := by unfold ofFault; rw [if_neg (by simp [hf])]
    obtain ⟨F, hF⟩ : ∃ F, F = ofFault t := ⟨_, rfl⟩
    rw [← hF]
    rw [← hF] at hof
    have HOF := Lib.hid hof
    generalize needsT t [] = l at *
    clear hn hw hm hs hf hc60 hlen hof hF
    go_enter Tryz.func26, Tryz.ntmps26
    go_wp2_with fail
    refine HC.out.mono ?_
    rintro e w1 ⟨rfl, hb1⟩
    have HB1 := Lib.hid hb1; clear hb1 HC
    go_upto_region 5 with fail
    have hbl := Go.heap_alloc_new w1 (.cells #[.slice none 0 0] 71)
    have hba := HB1.out.trans (((Below.refl w1.heap.size w1).alloc (Nat.le_refl _) (.cells #[.slice none 0 0] 71)).mono HB1.out.size)
    have HN0 := Lib.hid (HA.out _ w1.heap.size hba HB1.out.size ⟨_, hbl, World.ownsRow_nil _ _ _ _⟩)
    have HBA := Lib.hid hba
    have hs1 := HB1.out.size
    obtain ⟨lb, hlb⟩ : ∃ lb, lb = w1.heap.size := ⟨_, rfl⟩
    rw [← hlb] at HN0 hs1 ⊢
    clear hbl hba hlb HA HB1
    go_wp2_with fail
    refine HN0.out.mono ?_
    rintro e w2 ⟨rfl, hNA, hFB⟩
    obtain ⟨v, hv, hNR⟩ := NR.of_na hNA
    obtain ⟨a, c, rfl, hp⟩ := hNR
    have y0 : w2.cell? ⟨lb, 0, none⟩ = some (.slice a l.length c) := block_cell hv rfl
    have hct := contNeedBoth a l.length c (fun i => ((l.getD i nz).nm, (l.getD i nz).num, (l.getD i nz).text)) (fun i => (l.getD i nz).num && (l.getD i nz).text) w2 (by omega) (by
      rcases hp with h0 | ⟨g, rfl, hc⟩
      · exact .inl h0
      · exact .inr ⟨g, 0, rfl, fun i hi => by simpa using hc i hi⟩) (fun i _ W _ => of1_any (l.getD i nz) W)
    rw [anyI_list (fun n : Need => n.num && n.text) nz l 0 _ (fun j _ => by rw [Nat.zero_add])] at hct
    have HCT := Lib.hid hct
    have HNR := Lib.hid (show NR (.slice a l.length c) l w2 from ⟨a, c, rfl, hp⟩)
    have HB2 := Lib.hid (HBA.out.trans (hFB.below.mono hs1))
    have Y0 := Lib.hid y0
    generalize l.any (fun n => n.num && n.text) = bb at *
    clear hNA hFB hv hp hct HN0 HBA
    go_wp2_with fail
    refine HCT.out.mono ?_
    rintro e w3 ⟨rfl, hb3⟩
    have HNR3 := Lib.hid (HNR.out.below hb3)
    have HB3 := Lib.hid (HB2.out.trans (hb3.mono HB2.out.size))
    have y3 := keepCells hb3 _ _ _ Y0.out
    clear hb3 y0 HCT
    cases bb with
    | true =>
      have hF := HOF.out
      rw [if_pos rfl] at hF
      subst hF
      go_wp2_with fail
      go_ret2
      exact ⟨⟨_, rfl, fun h => by cases h⟩, HB3.out⟩
    | false =>
      have hF := HOF.out
      rw [if_neg (by simp)] at hF
      subst hF
      go_wp2_with fail
      go_ret2
      exact ⟨⟨.slice a l.length c, by rw [errVal_0]; rfl, HNR3.out⟩, HB3.out⟩
  · rw [errVal_no hf] at HC
    have hof : ofFault t = fault t := by unfold ofFault; rw [if_pos hf]
    rw [hof, errVal_no hf]
    have HF := Lib.hid hf
    generalize fault t = q at *
    clear hof hf hn hw hm hs
    go_enter Tryz.func26, Tryz.ntmps26
    go_wp2_with fail
    refine HC.out.mono ?_
    rintro e w1 ⟨rfl, hb1⟩
    have HB1 := Lib.hid hb1; clear hb1
    go_wp2_with fail
    go_ret2
    exact ⟨⟨_, rfl, fun h => absurd h HF.out⟩, HB1.out⟩
end Go.Proofs.YtnefcilopgcdpaaGreatDoor
