/-
  The walk of the law MsgWraps: it answers true.
-/
import Derived.Test.YtgkphpjnfigjiaaGreatDoorWrapk
import Derived.Test.YtgkphpjnfigjiaaGreatDoorErr
import Derived.Deep.AppendSrc
namespace Go.Proofs.YtgkphpjnfigjiaaGreatDoor
open Go.RowKit Ms

/-- nothing is appended: the same slice -/
theorem append_none (g k cap : Nat) (w : World) (h : k ≤ cap) :
    (Builtin.append_ #[22, 22] 22 #[.slice (some ⟨g, 0, none⟩) k cap, .slice none 0 0]).run Tryz.prog w = .ok (.slice (some ⟨g, 0, none⟩) k cap) w := by
  obtain ⟨i0, hi, _⟩ := info_parts infoNode
  have h1 := run_append_room_src w 22 22 22 35 i0 Tryz.underlying22 hi g 0 k cap (.slice none 0 0) 0 [] (Src.ofNil w Tryz.underlying22 0) h (fun j hj => by cases hj) (fun j hj => by cases hj)
  simpa [World.setCells] using h1
/-- same.Error at an error of this program -/
theorem error_val (k e : Int) (w : World) (hg : ErrTypeAt w) :
    Calls Tryz.prog 14 #[errVal k, .int .i64 e] w fun r w' => r = .returned (.bool (k == e)) ∧ Below w.heap.size w w' := by
  by_cases hk : k = 0
  · subst hk
    exact (error_nil e w).mono fun _ _ h => ⟨h.1, h.2 ▸ Below.refl _ _⟩
  · rw [errVal_no hk]
    exact error_no k e w hg
set_option maxHeartbeats 4000000 in
set_option maxRecDepth 100000 in
theorem msgWraps_walk (t u : T) (v1 v2 : Value) (w : World) (hn : isN t = true) (hn' : isN u = true) (hw : wt t + wt u ≤ 1100000) (hm : MW w) (hM : MaxAt w) (hg : ErrTypeAt w) (s01 : SV0 w v1 t) (s02 : SV0 w v2 u) :
    Calls Tryz.prog 6 #[v1, v2] w fun e w' => e = .returned (.bool true) ∧ Below w.heap.size w w' := by
  obtain ⟨i0, hi, hz0, hz1, hz2⟩ := info_parts infoNode
  have s1 := s01.sv; have s2 := s02.sv
  have HR := Lib.hid (read_any w hm)
  have HC1 := Lib.hid (fun W (hB : Below w.heap.size w W) => mcheck_any t v1 W hn (by omega) (hm.below hB) (s1.below hB))
  have HC2 := Lib.hid (fun W (hB : Below w.heap.size w W) => mcheck_any u v2 W hn' (by omega) (hm.below hB) (s2.below hB))
  by_cases hf : fault t = 0
  · by_cases hf' : fault u = 0
    · have HCh := Lib.hid (fun (T' : T) (v : Value) W (hB : Below w.heap.size w W) (h1 : isN T' = true) (h2 : wt T' ≤ 2100000) (h3 : SV W v T') => mcheck_any T' v W h1 h2 (hm.below hB) h3)
      have HTx := Lib.hid (fun (T' : T) (v : Value) W (hB : Below w.heap.size w W) (h1 : isN T' = true) (h2 : wt T' ≤ 2100000) (h3 : SV W v T') => mtext_any T' v W h1 h2 (hm.below hB) (MaxAt.below hM rfl hB) h3)
      have HEr := Lib.hid (fun (k : Int) W (hB : Below w.heap.size w W) => error_val k 4 W (hg.below hB))
      have HS1 := Lib.hid s1; have HS2 := Lib.hid s2
      have HF := Lib.hid hf; have HF' := Lib.hid hf'
      have HN := Lib.hid hn; have HN' := Lib.hid hn'; have HW := Lib.hid hw
      have HCa : Hid (∀ W, Below w.heap.size w W → Calls Tryz.prog 15 #[v1] W fun e w' => e = .returned .nilIface ∧ Below W.heap.size W w') := Lib.hid (fun W hB => by have h := HC1.out W hB; rw [hf, errVal_0] at h; exact h)
      have HCb : Hid (∀ W, Below w.heap.size w W → Calls Tryz.prog 15 #[v2] W fun e w' => e = .returned .nilIface ∧ Below W.heap.size W w') := Lib.hid (fun W hB => by have h := HC2.out W hB; rw [hf', errVal_0] at h; exact h)
      have hin := in_fault hf
      have hbo := both_fault hn hf hf'
      obtain ⟨A0, hA0⟩ : ∃ A0, A0 = txt t false := ⟨_, rfl⟩
      obtain ⟨B0, hB0⟩ : ∃ B0, B0 = txt u false := ⟨_, rfl⟩
      have ha := txt_len t false false 0 [] (fault_0 hf).1; have hb := txt_len u false false 0 [] (fault_0 hf').1
      rw [← hA0] at ha; rw [← hB0] at hb
      have sA : (⟨A0.toArray⟩ : ByteArray).size = A0.length := sizeOf_mk A0; have sB : (⟨B0.toArray⟩ : ByteArray).size = B0.length := sizeOf_mk B0
      have sW : (⟨#[123, 119, 104, 111, 125]⟩ : ByteArray).size = 5 := rfl
      have e1 : (⟨A0.toArray⟩ : ByteArray) ++ ⟨#[123, 119, 104, 111, 125]⟩ = ⟨(A0 ++ [123, 119, 104, 111, 125]).toArray⟩ := bytes_app _ [123, 119, 104, 111, 125] A0 (by simp)
      have e2 : (⟨(A0 ++ [123, 119, 104, 111, 125]).toArray⟩ : ByteArray) ++ ⟨B0.toArray⟩ = ⟨(A0 ++ [123, 119, 104, 111, 125] ++ B0).toArray⟩ := bytes_app _ B0 _ (by simp)
      have sK : (⟨(A0 ++ [123, 119, 104, 111, 125]).toArray⟩ : ByteArray).size = A0.length + 5 := by rw [sizeOf_mk]; simp
      have p1 : ∀ w : World, (Op.stringOp .add ⟨A0.toArray⟩ ⟨#[123, 119, 104, 111, 125]⟩).run Tryz.prog w = .ok (.string ⟨(A0 ++ [123, 119, 104, 111, 125]).toArray⟩) w := fun w => by rw [← e1]; exact run_string_add_sum _ _ _ (by omega)
      have p2 : ∀ w : World, (Op.stringOp .add ⟨(A0 ++ [123, 119, 104, 111, 125]).toArray⟩ ⟨B0.toArray⟩).run Tryz.prog w = .ok (.string ⟨(A0 ++ [123, 119, 104, 111, 125] ++ B0).toArray⟩) w := fun w => by rw [← e2]; exact run_string_add_sum _ _ _ (by omega)
      have HTa : Hid (∀ W, Below w.heap.size w W → Calls Tryz.prog 10 #[v1] W fun e w' => e = .returned (.tuple #[.string ⟨A0.toArray⟩, .nilIface]) ∧ Below W.heap.size W w') := Lib.hid (fun W hB => by have h := HTx.out t v1 W hB hn (by omega) (s1.below hB); rw [hf, if_pos rfl, errVal_0, ← hA0] at h; exact h)
      have HTb : Hid (∀ W, Below w.heap.size w W → Calls Tryz.prog 10 #[v2] W fun e w' => e = .returned (.tuple #[.string ⟨B0.toArray⟩, .nilIface]) ∧ Below W.heap.size W w') := Lib.hid (fun W hB => by have h := HTx.out u v2 W hB hn' (by omega) (s2.below hB); rw [hf', if_pos rfl, errVal_0, ← hB0] at h; exact h)
      have HA := Lib.hid hA0; have HB := Lib.hid hB0
      clear hA0 hB0 ha hb sA sB sW e1 e2 sK
      clear hm hM hg hf hf' hn hn' hw HC1 HC2
      have HX1 : Hid (∀ b o n, Rd w t b o n → n = len t ∧ ∃ xs : List Value, xs.length = n * 4 ∧ (∀ j u, xs[j]? = some u → w.cell? ⟨b, o + j, none⟩ = some u) ∧ (∀ u ∈ xs, u.oneCell' = true) ∧ RdX (fun b => b < w.heap.size) w t xs) := Lib.hid (fun b o n h => ⟨Rd.len t b o n h, Rd.news t b o n HN.out h⟩)
      have HX2 : Hid (∀ b o n, Rd w u b o n → n = len u ∧ ∃ xs : List Value, xs.length = n * 4 ∧ (∀ j u, xs[j]? = some u → w.cell? ⟨b, o + j, none⟩ = some u) ∧ (∀ u ∈ xs, u.oneCell' = true) ∧ RdX (fun b => b < w.heap.size) w u xs) := Lib.hid (fun b o n h => ⟨Rd.len u b o n h, Rd.news u b o n HN'.out h⟩)
      have hlt := len_wt t; have hlu := len_wt u
      have hl1 : len t ≤ 1100000 := by have := HW.out; omega
      have hl2 : len u ≤ 1100000 := by have := HW.out; omega
      clear hlt hlu
      clear s1 s2
      rcases s01 with ⟨rfl, rfl⟩ | ⟨b1, o1, n1, c1, rfl, hcap1, hr1⟩ <;> rcases s02 with ⟨rfl, rfl⟩ | ⟨b2, o2, n2, c2, rfl, hcap2, hr2⟩ <;> rcases hin with hin | hin <;> rcases hbo with hbo | hbo
      · clear HX1 hl1
        clear HX2 hl2
        go_enter Tryz.func6, Tryz.ntmps6
        go_wp2_with fail
        refine HR.out.mono ?_
        rintro e w1 ⟨rfl, hb1⟩
        have HB1 := Lib.hid hb1; clear hb1
        go_wp2_with fail
        refine (HCa.out _ HB1.out).mono ?_
        rintro e w2 ⟨rfl, hb2⟩
        have HB2 := Lib.hid (HB1.out.trans (hb2.mono HB1.out.size)); clear hb2
        go_wp2_with fail
        refine (HCb.out _ HB2.out).mono ?_
        rintro e w3 ⟨rfl, hb3⟩
        have HB3 := Lib.hid (HB2.out.trans (hb3.mono HB2.out.size)); clear hb3
        go_wp2_with fail
        have hb4 := allocs_below w3 [.cells #[.string ⟨otherK.toArray⟩, (.slice none 0 0)] 45, .cells #[.int .i64 5, .string ⟨whoL.toArray⟩, .int .i64 0, .slice (some ⟨w3.heap.size, 0, none⟩) 1 1] 35]
        have hat := allocs_at w3 [.cells #[.string ⟨otherK.toArray⟩, (.slice none 0 0)] 45, .cells #[.int .i64 5, .string ⟨whoL.toArray⟩, .int .i64 0, .slice (some ⟨w3.heap.size, 0, none⟩) 1 1] 35]
        change Calls Tryz.prog 15 #[.slice (some ⟨w3.heap.size + 1, 0, none⟩) 1 1] (allocs w3 [.cells #[.string ⟨otherK.toArray⟩, (.slice none 0 0)] 45, .cells #[.int .i64 5, .string ⟨whoL.toArray⟩, .int .i64 0, .slice (some ⟨w3.heap.size, 0, none⟩) 1 1] 35]) _
        have h0 := hat 0 (by simp); have h1 := hat 1 (by simp)
        clear hat
        generalize allocs w3 [.cells #[.string ⟨otherK.toArray⟩, (.slice none 0 0)] 45, .cells #[.int .i64 5, .string ⟨whoL.toArray⟩, .int .i64 0, .slice (some ⟨w3.heap.size, 0, none⟩) 1 1] 35] = w4 at *
        have HB4 := Lib.hid (HB3.out.trans (hb4.mono HB3.out.size))
        have hin4 : SV w4 (.slice (some ⟨w3.heap.size + 1, 0, none⟩) 1 1) (inT .nil) :=
          .inr ⟨w3.heap.size + 1, 0, 1, 1, rfl, Nat.le_refl _, .slice (some ⟨w3.heap.size, 0, none⟩) 1 1, 0, rfl, Joins.cell_of_block h1 0, Joins.cell_of_block h1 1, Joins.cell_of_block h1 2, Joins.cell_of_block h1 3, .inr ⟨w3.heap.size, 0, 1, 1, rfl, Nat.le_refl _, (.slice none 0 0), 0, rfl, Joins.cell_of_block h0 0, Joins.cell_of_block h0 1, HS1.out.below HB4.out, rfl⟩, rfl⟩
        have hck := HCh.out (inT .nil) _ w4 HB4.out (in_isN HN.out) (in_wt (by have := HW.out; omega)) hin4
        rw [hin, errVal_0] at hck
        clear hin4 h0 h1 hb4
        refine hck.mono ?_
        rintro e w5 ⟨rfl, hb5⟩
        have HB5 := Lib.hid (HB4.out.trans (hb5.mono HB4.out.size))
        clear hb5 hck
        have her := HEr.out 0 w5 HB5.out
        rw [errVal_0] at her
        go_wp2_with fail
        refine her.mono ?_
        rintro e w6 ⟨rfl, hb6⟩
        have HB6 := Lib.hid (HB5.out.trans (hb6.mono HB5.out.size))
        clear hb6 her
        rw [show ((0 : Int) == 4) = false from rfl]
        have hown0 := World.ownsRow_made (e := 35) (size := 4) (base := w6.heap.size) w6 #[] 0 (Nat.le_refl _) (by decide) rfl
        have hba := HB6.out.alloc HB6.out.size (.cells #[] 35)
        have hown1 := Lib.hid hown0; have hB1 := Lib.hid hba
        have hsa : w6.heap.size ≤ (w6.alloc (.cells #[] 35)).heap.size := by simp
        have happ1 : ∀ W, (Builtin.append_ #[22, 22] 22 #[.slice (some ⟨w6.heap.size, 0, none⟩) 0 0, .slice none 0 0]).run Tryz.prog W = .ok (.slice (some ⟨w6.heap.size, 0, none⟩) 0 0) W := fun W => append_none _ _ _ W (Nat.le_refl _)
        have hbk1 := Lib.hid (show ((w6.alloc (.cells #[] 35)).alloc (.cells (List.toArray [.int .i64 2, .string ⟨whoL.toArray⟩, .int .i64 0, .slice none 0 0]) 35)).heap[w6.heap.size + 1]? = some (.cells (List.toArray [.int .i64 2, .string ⟨whoL.toArray⟩, .int .i64 0, .slice none 0 0]) 35) by
          have h := Go.heap_alloc_new (w6.alloc (.cells #[] 35)) (.cells (List.toArray [.int .i64 2, .string ⟨whoL.toArray⟩, .int .i64 0, .slice none 0 0]) 35)
          have e : (w6.alloc (.cells #[] 35)).heap.size = w6.heap.size + 1 := by simp
          rw [e] at h; exact h)
        clear hown0 hba
        go_wp2_with (at_builtin; refine wpList_append_lies _ rfl _ _ 22 rfl w6.heap.size 35 i0 (.agg #[.int .i64 0, .string ⟨#[]⟩, .int .i64 0, .slice none 0 0]) 4 56 Tryz.underlying22 hi hz0 hz1 hz2 rfl (by decide) _ 0 [] rfl (hown1.out.alloc _) ⟨(w6.heap.size + 1), 0, none⟩ 1 1 [.int .i64 2, .string ⟨whoL.toArray⟩, .int .i64 0, .slice none 0 0] rfl rfl (World.news_of_block hbk1.out) (fun x hx => by simp at hx; rcases hx with rfl | rfl | rfl | rfl <;> rfl) (by decide) (by unfold maxLen; omega) (by omega) (by simp; omega) _ rfl ?_; intro g cap wb hownb hgrowb hatb hltb; have hown2 := Lib.hid hownb; have hB2 := Lib.hid (below_grown (hB1.out.alloc hB1.out.size _) hgrowb (fun k hk => Nat.le_trans HB6.out.size (hown1.out.lt k hk).1) (by have := HB6.out.size; simp; omega)); have hsb : w6.heap.size ≤ wb.heap.size := (by have := hgrowb.size; simp at this; omega); clear hownb hgrowb hatb hltb hbk1; have hcap3 : 1 ≤ cap := (own_cells hown2.out).1)
        have hown3 := hown2; have hB3 := hB2
        have hrdx := both_rdx (show RdX (fun b => b < w.heap.size) w .nil [] from rfl) (show RdX (fun b => b < w.heap.size) w .nil [] from rfl)
        have hlb : len (bothT .nil .nil) = 1 := by rw [both_len]; simp only [len]; try simp only [len]; try omega
        have hsv3 : SV wb (.slice (some ⟨g, 0, none⟩) 1 cap) (bothT .nil .nil) := SVP.sv (svp_own (P := fun _ => True) (base := w6.heap.size) (xs := [] ++ (whoC ++ [])) (by rw [hlb]; have h := hown3.out; rw [List.append_nil]; exact h) (RdX.mono (fun _ _ _ => trivial) _ _ (RdX.keep (W' := wb) (fun b _ hp => hB3.out.block b hp) _ _ hrdx)) (fun _ _ => trivial))
        have hnb : isN (bothT .nil .nil) = true := both_isN HN.out HN'.out
        have hwb : wt (bothT .nil .nil) ≤ 2100000 := both_wt HW.out
        have HNB := Lib.hid hnb; have HWB := Lib.hid hwb; have HSV3 := Lib.hid hsv3
        clear hrdx hlb hsv3 hnb hwb hown1 hown2 hown3
        have hck := HCh.out _ (.slice (some ⟨g, 0, none⟩) 1 cap) wb hB3.out HNB.out HWB.out HSV3.out
        rw [hbo, errVal_0] at hck
        refine hck.mono ?_
        rintro e w10 ⟨rfl, hb10⟩
        have HB10 := Lib.hid (hB3.out.trans (hb10.mono hB3.out.size))
        have HSV10 := Lib.hid (HSV3.out.below hb10)
        clear hb10 hck HSV3
        have her := HEr.out 0 w10 HB10.out
        rw [errVal_0] at her
        go_wp2_with fail
        refine her.mono ?_
        rintro e w11 ⟨rfl, hb11⟩
        have HB11 := Lib.hid (HB10.out.trans (hb11.mono HB10.out.size))
        have HSV11 := Lib.hid (HSV10.out.below hb11)
        clear hb11 her HSV10
        rw [show ((0 : Int) == 4) = false from rfl]
        go_wp2_with fail
        refine (HTa.out _ HB11.out).mono ?_
        rintro e w12 ⟨rfl, hb12⟩
        have HB12 := Lib.hid (HB11.out.trans (hb12.mono HB11.out.size))
        have HSV12 := Lib.hid (HSV11.out.below hb12)
        clear hb12 HSV11
        go_wp2_with fail
        refine (HTb.out _ HB12.out).mono ?_
        rintro e w13 ⟨rfl, hb13⟩
        have HB13 := Lib.hid (HB12.out.trans (hb13.mono HB12.out.size))
        have HSV13 := Lib.hid (HSV12.out.below hb13)
        clear hb13 HSV12
        have htx := HTx.out _ (.slice (some ⟨g, 0, none⟩) 1 cap) w13 HB13.out HNB.out HWB.out HSV13.out
        rw [hbo, if_pos rfl, errVal_0, both_txt, show txt .nil false ++ [123, 119, 104, 111, 125] ++ txt .nil false = A0 ++ [123, 119, 104, 111, 125] ++ B0 by rw [HA.out, HB.out]] at htx
        go_wp2_with fail
        refine htx.mono ?_
        rintro e w14 ⟨rfl, hb14⟩
        have HB14 := Lib.hid (HB13.out.trans (hb14.mono HB13.out.size))
        clear hb14 htx HSV13
        go_wp2_with fail
        go_ret
        exact ⟨by first | rfl | simp, HB14.out⟩
      · clear HX1 hl1
        clear HX2 hl2
        go_enter Tryz.func6, Tryz.ntmps6
        go_wp2_with fail
        refine HR.out.mono ?_
        rintro e w1 ⟨rfl, hb1⟩
        have HB1 := Lib.hid hb1; clear hb1
        go_wp2_with fail
        refine (HCa.out _ HB1.out).mono ?_
        rintro e w2 ⟨rfl, hb2⟩
        have HB2 := Lib.hid (HB1.out.trans (hb2.mono HB1.out.size)); clear hb2
        go_wp2_with fail
        refine (HCb.out _ HB2.out).mono ?_
        rintro e w3 ⟨rfl, hb3⟩
        have HB3 := Lib.hid (HB2.out.trans (hb3.mono HB2.out.size)); clear hb3
        go_wp2_with fail
        have hb4 := allocs_below w3 [.cells #[.string ⟨otherK.toArray⟩, (.slice none 0 0)] 45, .cells #[.int .i64 5, .string ⟨whoL.toArray⟩, .int .i64 0, .slice (some ⟨w3.heap.size, 0, none⟩) 1 1] 35]
        have hat := allocs_at w3 [.cells #[.string ⟨otherK.toArray⟩, (.slice none 0 0)] 45, .cells #[.int .i64 5, .string ⟨whoL.toArray⟩, .int .i64 0, .slice (some ⟨w3.heap.size, 0, none⟩) 1 1] 35]
        change Calls Tryz.prog 15 #[.slice (some ⟨w3.heap.size + 1, 0, none⟩) 1 1] (allocs w3 [.cells #[.string ⟨otherK.toArray⟩, (.slice none 0 0)] 45, .cells #[.int .i64 5, .string ⟨whoL.toArray⟩, .int .i64 0, .slice (some ⟨w3.heap.size, 0, none⟩) 1 1] 35]) _
        have h0 := hat 0 (by simp); have h1 := hat 1 (by simp)
        clear hat
        generalize allocs w3 [.cells #[.string ⟨otherK.toArray⟩, (.slice none 0 0)] 45, .cells #[.int .i64 5, .string ⟨whoL.toArray⟩, .int .i64 0, .slice (some ⟨w3.heap.size, 0, none⟩) 1 1] 35] = w4 at *
        have HB4 := Lib.hid (HB3.out.trans (hb4.mono HB3.out.size))
        have hin4 : SV w4 (.slice (some ⟨w3.heap.size + 1, 0, none⟩) 1 1) (inT .nil) :=
          .inr ⟨w3.heap.size + 1, 0, 1, 1, rfl, Nat.le_refl _, .slice (some ⟨w3.heap.size, 0, none⟩) 1 1, 0, rfl, Joins.cell_of_block h1 0, Joins.cell_of_block h1 1, Joins.cell_of_block h1 2, Joins.cell_of_block h1 3, .inr ⟨w3.heap.size, 0, 1, 1, rfl, Nat.le_refl _, (.slice none 0 0), 0, rfl, Joins.cell_of_block h0 0, Joins.cell_of_block h0 1, HS1.out.below HB4.out, rfl⟩, rfl⟩
        have hck := HCh.out (inT .nil) _ w4 HB4.out (in_isN HN.out) (in_wt (by have := HW.out; omega)) hin4
        rw [hin, errVal_0] at hck
        clear hin4 h0 h1 hb4
        refine hck.mono ?_
        rintro e w5 ⟨rfl, hb5⟩
        have HB5 := Lib.hid (HB4.out.trans (hb5.mono HB4.out.size))
        clear hb5 hck
        have her := HEr.out 0 w5 HB5.out
        rw [errVal_0] at her
        go_wp2_with fail
        refine her.mono ?_
        rintro e w6 ⟨rfl, hb6⟩
        have HB6 := Lib.hid (HB5.out.trans (hb6.mono HB5.out.size))
        clear hb6 her
        rw [show ((0 : Int) == 4) = false from rfl]
        have hown0 := World.ownsRow_made (e := 35) (size := 4) (base := w6.heap.size) w6 #[] 0 (Nat.le_refl _) (by decide) rfl
        have hba := HB6.out.alloc HB6.out.size (.cells #[] 35)
        have hown1 := Lib.hid hown0; have hB1 := Lib.hid hba
        have hsa : w6.heap.size ≤ (w6.alloc (.cells #[] 35)).heap.size := by simp
        have happ1 : ∀ W, (Builtin.append_ #[22, 22] 22 #[.slice (some ⟨w6.heap.size, 0, none⟩) 0 0, .slice none 0 0]).run Tryz.prog W = .ok (.slice (some ⟨w6.heap.size, 0, none⟩) 0 0) W := fun W => append_none _ _ _ W (Nat.le_refl _)
        have hbk1 := Lib.hid (show ((w6.alloc (.cells #[] 35)).alloc (.cells (List.toArray [.int .i64 2, .string ⟨whoL.toArray⟩, .int .i64 0, .slice none 0 0]) 35)).heap[w6.heap.size + 1]? = some (.cells (List.toArray [.int .i64 2, .string ⟨whoL.toArray⟩, .int .i64 0, .slice none 0 0]) 35) by
          have h := Go.heap_alloc_new (w6.alloc (.cells #[] 35)) (.cells (List.toArray [.int .i64 2, .string ⟨whoL.toArray⟩, .int .i64 0, .slice none 0 0]) 35)
          have e : (w6.alloc (.cells #[] 35)).heap.size = w6.heap.size + 1 := by simp
          rw [e] at h; exact h)
        clear hown0 hba
        go_wp2_with (at_builtin; refine wpList_append_lies _ rfl _ _ 22 rfl w6.heap.size 35 i0 (.agg #[.int .i64 0, .string ⟨#[]⟩, .int .i64 0, .slice none 0 0]) 4 56 Tryz.underlying22 hi hz0 hz1 hz2 rfl (by decide) _ 0 [] rfl (hown1.out.alloc _) ⟨(w6.heap.size + 1), 0, none⟩ 1 1 [.int .i64 2, .string ⟨whoL.toArray⟩, .int .i64 0, .slice none 0 0] rfl rfl (World.news_of_block hbk1.out) (fun x hx => by simp at hx; rcases hx with rfl | rfl | rfl | rfl <;> rfl) (by decide) (by unfold maxLen; omega) (by omega) (by simp; omega) _ rfl ?_; intro g cap wb hownb hgrowb hatb hltb; have hown2 := Lib.hid hownb; have hB2 := Lib.hid (below_grown (hB1.out.alloc hB1.out.size _) hgrowb (fun k hk => Nat.le_trans HB6.out.size (hown1.out.lt k hk).1) (by have := HB6.out.size; simp; omega)); have hsb : w6.heap.size ≤ wb.heap.size := (by have := hgrowb.size; simp at this; omega); clear hownb hgrowb hatb hltb hbk1; have hcap3 : 1 ≤ cap := (own_cells hown2.out).1)
        have hown3 := hown2; have hB3 := hB2
        have hrdx := both_rdx (show RdX (fun b => b < w.heap.size) w .nil [] from rfl) (show RdX (fun b => b < w.heap.size) w .nil [] from rfl)
        have hlb : len (bothT .nil .nil) = 1 := by rw [both_len]; simp only [len]; try simp only [len]; try omega
        have hsv3 : SV wb (.slice (some ⟨g, 0, none⟩) 1 cap) (bothT .nil .nil) := SVP.sv (svp_own (P := fun _ => True) (base := w6.heap.size) (xs := [] ++ (whoC ++ [])) (by rw [hlb]; have h := hown3.out; rw [List.append_nil]; exact h) (RdX.mono (fun _ _ _ => trivial) _ _ (RdX.keep (W' := wb) (fun b _ hp => hB3.out.block b hp) _ _ hrdx)) (fun _ _ => trivial))
        have hnb : isN (bothT .nil .nil) = true := both_isN HN.out HN'.out
        have hwb : wt (bothT .nil .nil) ≤ 2100000 := both_wt HW.out
        have HNB := Lib.hid hnb; have HWB := Lib.hid hwb; have HSV3 := Lib.hid hsv3
        clear hrdx hlb hsv3 hnb hwb hown1 hown2 hown3
        have hck := HCh.out _ (.slice (some ⟨g, 0, none⟩) 1 cap) wb hB3.out HNB.out HWB.out HSV3.out
        rw [hbo, errVal_no (by decide)] at hck
        refine hck.mono ?_
        rintro e w10 ⟨rfl, hb10⟩
        have HB10 := Lib.hid (hB3.out.trans (hb10.mono hB3.out.size))
        have HSV10 := Lib.hid (HSV3.out.below hb10)
        clear hb10 hck HSV3
        have her := HEr.out 4 w10 HB10.out
        rw [errVal_no (by decide)] at her
        go_wp2_with fail
        refine her.mono ?_
        rintro e w11 ⟨rfl, hb11⟩
        have HB11 := Lib.hid (HB10.out.trans (hb11.mono HB10.out.size))
        have HSV11 := Lib.hid (HSV10.out.below hb11)
        clear hb11 her HSV10
        rw [show ((4 : Int) == 4) = true from rfl]
        go_wp2_with fail
        go_ret
        exact ⟨rfl, HB11.out⟩
      · clear HX1 hl1
        clear HX2 hl2
        go_enter Tryz.func6, Tryz.ntmps6
        go_wp2_with fail
        refine HR.out.mono ?_
        rintro e w1 ⟨rfl, hb1⟩
        have HB1 := Lib.hid hb1; clear hb1
        go_wp2_with fail
        refine (HCa.out _ HB1.out).mono ?_
        rintro e w2 ⟨rfl, hb2⟩
        have HB2 := Lib.hid (HB1.out.trans (hb2.mono HB1.out.size)); clear hb2
        go_wp2_with fail
        refine (HCb.out _ HB2.out).mono ?_
        rintro e w3 ⟨rfl, hb3⟩
        have HB3 := Lib.hid (HB2.out.trans (hb3.mono HB2.out.size)); clear hb3
        go_wp2_with fail
        have hb4 := allocs_below w3 [.cells #[.string ⟨otherK.toArray⟩, (.slice none 0 0)] 45, .cells #[.int .i64 5, .string ⟨whoL.toArray⟩, .int .i64 0, .slice (some ⟨w3.heap.size, 0, none⟩) 1 1] 35]
        have hat := allocs_at w3 [.cells #[.string ⟨otherK.toArray⟩, (.slice none 0 0)] 45, .cells #[.int .i64 5, .string ⟨whoL.toArray⟩, .int .i64 0, .slice (some ⟨w3.heap.size, 0, none⟩) 1 1] 35]
        change Calls Tryz.prog 15 #[.slice (some ⟨w3.heap.size + 1, 0, none⟩) 1 1] (allocs w3 [.cells #[.string ⟨otherK.toArray⟩, (.slice none 0 0)] 45, .cells #[.int .i64 5, .string ⟨whoL.toArray⟩, .int .i64 0, .slice (some ⟨w3.heap.size, 0, none⟩) 1 1] 35]) _
        have h0 := hat 0 (by simp); have h1 := hat 1 (by simp)
        clear hat
        generalize allocs w3 [.cells #[.string ⟨otherK.toArray⟩, (.slice none 0 0)] 45, .cells #[.int .i64 5, .string ⟨whoL.toArray⟩, .int .i64 0, .slice (some ⟨w3.heap.size, 0, none⟩) 1 1] 35] = w4 at *
        have HB4 := Lib.hid (HB3.out.trans (hb4.mono HB3.out.size))
        have hin4 : SV w4 (.slice (some ⟨w3.heap.size + 1, 0, none⟩) 1 1) (inT .nil) :=
          .inr ⟨w3.heap.size + 1, 0, 1, 1, rfl, Nat.le_refl _, .slice (some ⟨w3.heap.size, 0, none⟩) 1 1, 0, rfl, Joins.cell_of_block h1 0, Joins.cell_of_block h1 1, Joins.cell_of_block h1 2, Joins.cell_of_block h1 3, .inr ⟨w3.heap.size, 0, 1, 1, rfl, Nat.le_refl _, (.slice none 0 0), 0, rfl, Joins.cell_of_block h0 0, Joins.cell_of_block h0 1, HS1.out.below HB4.out, rfl⟩, rfl⟩
        have hck := HCh.out (inT .nil) _ w4 HB4.out (in_isN HN.out) (in_wt (by have := HW.out; omega)) hin4
        rw [hin, errVal_no (by decide)] at hck
        clear hin4 h0 h1 hb4
        refine hck.mono ?_
        rintro e w5 ⟨rfl, hb5⟩
        have HB5 := Lib.hid (HB4.out.trans (hb5.mono HB4.out.size))
        clear hb5 hck
        have her := HEr.out 4 w5 HB5.out
        rw [errVal_no (by decide)] at her
        go_wp2_with fail
        refine her.mono ?_
        rintro e w6 ⟨rfl, hb6⟩
        have HB6 := Lib.hid (HB5.out.trans (hb6.mono HB5.out.size))
        clear hb6 her
        rw [show ((4 : Int) == 4) = true from rfl]
        have hown0 := World.ownsRow_made (e := 35) (size := 4) (base := w6.heap.size) w6 #[] 0 (Nat.le_refl _) (by decide) rfl
        have hba := HB6.out.alloc HB6.out.size (.cells #[] 35)
        have hown1 := Lib.hid hown0; have hB1 := Lib.hid hba
        have hsa : w6.heap.size ≤ (w6.alloc (.cells #[] 35)).heap.size := by simp
        have happ1 : ∀ W, (Builtin.append_ #[22, 22] 22 #[.slice (some ⟨w6.heap.size, 0, none⟩) 0 0, .slice none 0 0]).run Tryz.prog W = .ok (.slice (some ⟨w6.heap.size, 0, none⟩) 0 0) W := fun W => append_none _ _ _ W (Nat.le_refl _)
        have hbk1 := Lib.hid (show ((w6.alloc (.cells #[] 35)).alloc (.cells (List.toArray [.int .i64 2, .string ⟨whoL.toArray⟩, .int .i64 0, .slice none 0 0]) 35)).heap[w6.heap.size + 1]? = some (.cells (List.toArray [.int .i64 2, .string ⟨whoL.toArray⟩, .int .i64 0, .slice none 0 0]) 35) by
          have h := Go.heap_alloc_new (w6.alloc (.cells #[] 35)) (.cells (List.toArray [.int .i64 2, .string ⟨whoL.toArray⟩, .int .i64 0, .slice none 0 0]) 35)
          have e : (w6.alloc (.cells #[] 35)).heap.size = w6.heap.size + 1 := by simp
          rw [e] at h; exact h)
        clear hown0 hba
        go_wp2_with (at_builtin; refine wpList_append_lies _ rfl _ _ 22 rfl w6.heap.size 35 i0 (.agg #[.int .i64 0, .string ⟨#[]⟩, .int .i64 0, .slice none 0 0]) 4 56 Tryz.underlying22 hi hz0 hz1 hz2 rfl (by decide) _ 0 [] rfl (hown1.out.alloc _) ⟨(w6.heap.size + 1), 0, none⟩ 1 1 [.int .i64 2, .string ⟨whoL.toArray⟩, .int .i64 0, .slice none 0 0] rfl rfl (World.news_of_block hbk1.out) (fun x hx => by simp at hx; rcases hx with rfl | rfl | rfl | rfl <;> rfl) (by decide) (by unfold maxLen; omega) (by omega) (by simp; omega) _ rfl ?_; intro g cap wb hownb hgrowb hatb hltb; have hown2 := Lib.hid hownb; have hB2 := Lib.hid (below_grown (hB1.out.alloc hB1.out.size _) hgrowb (fun k hk => Nat.le_trans HB6.out.size (hown1.out.lt k hk).1) (by have := HB6.out.size; simp; omega)); have hsb : w6.heap.size ≤ wb.heap.size := (by have := hgrowb.size; simp at this; omega); clear hownb hgrowb hatb hltb hbk1; have hcap3 : 1 ≤ cap := (own_cells hown2.out).1)
        have hown3 := hown2; have hB3 := hB2
        have hrdx := both_rdx (show RdX (fun b => b < w.heap.size) w .nil [] from rfl) (show RdX (fun b => b < w.heap.size) w .nil [] from rfl)
        have hlb : len (bothT .nil .nil) = 1 := by rw [both_len]; simp only [len]; try simp only [len]; try omega
        have hsv3 : SV wb (.slice (some ⟨g, 0, none⟩) 1 cap) (bothT .nil .nil) := SVP.sv (svp_own (P := fun _ => True) (base := w6.heap.size) (xs := [] ++ (whoC ++ [])) (by rw [hlb]; have h := hown3.out; rw [List.append_nil]; exact h) (RdX.mono (fun _ _ _ => trivial) _ _ (RdX.keep (W' := wb) (fun b _ hp => hB3.out.block b hp) _ _ hrdx)) (fun _ _ => trivial))
        have hnb : isN (bothT .nil .nil) = true := both_isN HN.out HN'.out
        have hwb : wt (bothT .nil .nil) ≤ 2100000 := both_wt HW.out
        have HNB := Lib.hid hnb; have HWB := Lib.hid hwb; have HSV3 := Lib.hid hsv3
        clear hrdx hlb hsv3 hnb hwb hown1 hown2 hown3
        have hck := HCh.out _ (.slice (some ⟨g, 0, none⟩) 1 cap) wb hB3.out HNB.out HWB.out HSV3.out
        rw [hbo, errVal_0] at hck
        refine hck.mono ?_
        rintro e w10 ⟨rfl, hb10⟩
        have HB10 := Lib.hid (hB3.out.trans (hb10.mono hB3.out.size))
        have HSV10 := Lib.hid (HSV3.out.below hb10)
        clear hb10 hck HSV3
        have her := HEr.out 0 w10 HB10.out
        rw [errVal_0] at her
        go_wp2_with fail
        refine her.mono ?_
        rintro e w11 ⟨rfl, hb11⟩
        have HB11 := Lib.hid (HB10.out.trans (hb11.mono HB10.out.size))
        have HSV11 := Lib.hid (HSV10.out.below hb11)
        clear hb11 her HSV10
        rw [show ((0 : Int) == 4) = false from rfl]
        go_wp2_with fail
        refine (HTa.out _ HB11.out).mono ?_
        rintro e w12 ⟨rfl, hb12⟩
        have HB12 := Lib.hid (HB11.out.trans (hb12.mono HB11.out.size))
        have HSV12 := Lib.hid (HSV11.out.below hb12)
        clear hb12 HSV11
        go_wp2_with fail
        refine (HTb.out _ HB12.out).mono ?_
        rintro e w13 ⟨rfl, hb13⟩
        have HB13 := Lib.hid (HB12.out.trans (hb13.mono HB12.out.size))
        have HSV13 := Lib.hid (HSV12.out.below hb13)
        clear hb13 HSV12
        have htx := HTx.out _ (.slice (some ⟨g, 0, none⟩) 1 cap) w13 HB13.out HNB.out HWB.out HSV13.out
        rw [hbo, if_pos rfl, errVal_0, both_txt, show txt .nil false ++ [123, 119, 104, 111, 125] ++ txt .nil false = A0 ++ [123, 119, 104, 111, 125] ++ B0 by rw [HA.out, HB.out]] at htx
        go_wp2_with fail
        refine htx.mono ?_
        rintro e w14 ⟨rfl, hb14⟩
        have HB14 := Lib.hid (HB13.out.trans (hb14.mono HB13.out.size))
        clear hb14 htx HSV13
        go_wp2_with fail
        go_ret
        exact ⟨by first | rfl | simp, HB14.out⟩
      · clear HX1 hl1
        clear HX2 hl2
        go_enter Tryz.func6, Tryz.ntmps6
        go_wp2_with fail
        refine HR.out.mono ?_
        rintro e w1 ⟨rfl, hb1⟩
        have HB1 := Lib.hid hb1; clear hb1
        go_wp2_with fail
        refine (HCa.out _ HB1.out).mono ?_
        rintro e w2 ⟨rfl, hb2⟩
        have HB2 := Lib.hid (HB1.out.trans (hb2.mono HB1.out.size)); clear hb2
        go_wp2_with fail
        refine (HCb.out _ HB2.out).mono ?_
        rintro e w3 ⟨rfl, hb3⟩
        have HB3 := Lib.hid (HB2.out.trans (hb3.mono HB2.out.size)); clear hb3
        go_wp2_with fail
        have hb4 := allocs_below w3 [.cells #[.string ⟨otherK.toArray⟩, (.slice none 0 0)] 45, .cells #[.int .i64 5, .string ⟨whoL.toArray⟩, .int .i64 0, .slice (some ⟨w3.heap.size, 0, none⟩) 1 1] 35]
        have hat := allocs_at w3 [.cells #[.string ⟨otherK.toArray⟩, (.slice none 0 0)] 45, .cells #[.int .i64 5, .string ⟨whoL.toArray⟩, .int .i64 0, .slice (some ⟨w3.heap.size, 0, none⟩) 1 1] 35]
        change Calls Tryz.prog 15 #[.slice (some ⟨w3.heap.size + 1, 0, none⟩) 1 1] (allocs w3 [.cells #[.string ⟨otherK.toArray⟩, (.slice none 0 0)] 45, .cells #[.int .i64 5, .string ⟨whoL.toArray⟩, .int .i64 0, .slice (some ⟨w3.heap.size, 0, none⟩) 1 1] 35]) _
        have h0 := hat 0 (by simp); have h1 := hat 1 (by simp)
        clear hat
        generalize allocs w3 [.cells #[.string ⟨otherK.toArray⟩, (.slice none 0 0)] 45, .cells #[.int .i64 5, .string ⟨whoL.toArray⟩, .int .i64 0, .slice (some ⟨w3.heap.size, 0, none⟩) 1 1] 35] = w4 at *
        have HB4 := Lib.hid (HB3.out.trans (hb4.mono HB3.out.size))
        have hin4 : SV w4 (.slice (some ⟨w3.heap.size + 1, 0, none⟩) 1 1) (inT .nil) :=
          .inr ⟨w3.heap.size + 1, 0, 1, 1, rfl, Nat.le_refl _, .slice (some ⟨w3.heap.size, 0, none⟩) 1 1, 0, rfl, Joins.cell_of_block h1 0, Joins.cell_of_block h1 1, Joins.cell_of_block h1 2, Joins.cell_of_block h1 3, .inr ⟨w3.heap.size, 0, 1, 1, rfl, Nat.le_refl _, (.slice none 0 0), 0, rfl, Joins.cell_of_block h0 0, Joins.cell_of_block h0 1, HS1.out.below HB4.out, rfl⟩, rfl⟩
        have hck := HCh.out (inT .nil) _ w4 HB4.out (in_isN HN.out) (in_wt (by have := HW.out; omega)) hin4
        rw [hin, errVal_no (by decide)] at hck
        clear hin4 h0 h1 hb4
        refine hck.mono ?_
        rintro e w5 ⟨rfl, hb5⟩
        have HB5 := Lib.hid (HB4.out.trans (hb5.mono HB4.out.size))
        clear hb5 hck
        have her := HEr.out 4 w5 HB5.out
        rw [errVal_no (by decide)] at her
        go_wp2_with fail
        refine her.mono ?_
        rintro e w6 ⟨rfl, hb6⟩
        have HB6 := Lib.hid (HB5.out.trans (hb6.mono HB5.out.size))
        clear hb6 her
        rw [show ((4 : Int) == 4) = true from rfl]
        have hown0 := World.ownsRow_made (e := 35) (size := 4) (base := w6.heap.size) w6 #[] 0 (Nat.le_refl _) (by decide) rfl
        have hba := HB6.out.alloc HB6.out.size (.cells #[] 35)
        have hown1 := Lib.hid hown0; have hB1 := Lib.hid hba
        have hsa : w6.heap.size ≤ (w6.alloc (.cells #[] 35)).heap.size := by simp
        have happ1 : ∀ W, (Builtin.append_ #[22, 22] 22 #[.slice (some ⟨w6.heap.size, 0, none⟩) 0 0, .slice none 0 0]).run Tryz.prog W = .ok (.slice (some ⟨w6.heap.size, 0, none⟩) 0 0) W := fun W => append_none _ _ _ W (Nat.le_refl _)
        have hbk1 := Lib.hid (show ((w6.alloc (.cells #[] 35)).alloc (.cells (List.toArray [.int .i64 2, .string ⟨whoL.toArray⟩, .int .i64 0, .slice none 0 0]) 35)).heap[w6.heap.size + 1]? = some (.cells (List.toArray [.int .i64 2, .string ⟨whoL.toArray⟩, .int .i64 0, .slice none 0 0]) 35) by
          have h := Go.heap_alloc_new (w6.alloc (.cells #[] 35)) (.cells (List.toArray [.int .i64 2, .string ⟨whoL.toArray⟩, .int .i64 0, .slice none 0 0]) 35)
          have e : (w6.alloc (.cells #[] 35)).heap.size = w6.heap.size + 1 := by simp
          rw [e] at h; exact h)
        clear hown0 hba
        go_wp2_with (at_builtin; refine wpList_append_lies _ rfl _ _ 22 rfl w6.heap.size 35 i0 (.agg #[.int .i64 0, .string ⟨#[]⟩, .int .i64 0, .slice none 0 0]) 4 56 Tryz.underlying22 hi hz0 hz1 hz2 rfl (by decide) _ 0 [] rfl (hown1.out.alloc _) ⟨(w6.heap.size + 1), 0, none⟩ 1 1 [.int .i64 2, .string ⟨whoL.toArray⟩, .int .i64 0, .slice none 0 0] rfl rfl (World.news_of_block hbk1.out) (fun x hx => by simp at hx; rcases hx with rfl | rfl | rfl | rfl <;> rfl) (by decide) (by unfold maxLen; omega) (by omega) (by simp; omega) _ rfl ?_; intro g cap wb hownb hgrowb hatb hltb; have hown2 := Lib.hid hownb; have hB2 := Lib.hid (below_grown (hB1.out.alloc hB1.out.size _) hgrowb (fun k hk => Nat.le_trans HB6.out.size (hown1.out.lt k hk).1) (by have := HB6.out.size; simp; omega)); have hsb : w6.heap.size ≤ wb.heap.size := (by have := hgrowb.size; simp at this; omega); clear hownb hgrowb hatb hltb hbk1; have hcap3 : 1 ≤ cap := (own_cells hown2.out).1)
        have hown3 := hown2; have hB3 := hB2
        have hrdx := both_rdx (show RdX (fun b => b < w.heap.size) w .nil [] from rfl) (show RdX (fun b => b < w.heap.size) w .nil [] from rfl)
        have hlb : len (bothT .nil .nil) = 1 := by rw [both_len]; simp only [len]; try simp only [len]; try omega
        have hsv3 : SV wb (.slice (some ⟨g, 0, none⟩) 1 cap) (bothT .nil .nil) := SVP.sv (svp_own (P := fun _ => True) (base := w6.heap.size) (xs := [] ++ (whoC ++ [])) (by rw [hlb]; have h := hown3.out; rw [List.append_nil]; exact h) (RdX.mono (fun _ _ _ => trivial) _ _ (RdX.keep (W' := wb) (fun b _ hp => hB3.out.block b hp) _ _ hrdx)) (fun _ _ => trivial))
        have hnb : isN (bothT .nil .nil) = true := both_isN HN.out HN'.out
        have hwb : wt (bothT .nil .nil) ≤ 2100000 := both_wt HW.out
        have HNB := Lib.hid hnb; have HWB := Lib.hid hwb; have HSV3 := Lib.hid hsv3
        clear hrdx hlb hsv3 hnb hwb hown1 hown2 hown3
        have hck := HCh.out _ (.slice (some ⟨g, 0, none⟩) 1 cap) wb hB3.out HNB.out HWB.out HSV3.out
        rw [hbo, errVal_no (by decide)] at hck
        refine hck.mono ?_
        rintro e w10 ⟨rfl, hb10⟩
        have HB10 := Lib.hid (hB3.out.trans (hb10.mono hB3.out.size))
        have HSV10 := Lib.hid (HSV3.out.below hb10)
        clear hb10 hck HSV3
        have her := HEr.out 4 w10 HB10.out
        rw [errVal_no (by decide)] at her
        go_wp2_with fail
        refine her.mono ?_
        rintro e w11 ⟨rfl, hb11⟩
        have HB11 := Lib.hid (HB10.out.trans (hb11.mono HB10.out.size))
        have HSV11 := Lib.hid (HSV10.out.below hb11)
        clear hb11 her HSV10
        rw [show ((4 : Int) == 4) = true from rfl]
        go_wp2_with fail
        go_ret
        exact ⟨rfl, HB11.out⟩
      · clear HX1 hl1
        obtain ⟨hn2, xs2, hx2⟩ := HX2.out _ _ _ hr2
        have HL2 := Lib.hid hn2
        have hnb2 : n2 ≤ 1100000 := by omega
        clear hn2 hr2 HX2 hl2
        go_enter Tryz.func6, Tryz.ntmps6
        go_wp2_with fail
        refine HR.out.mono ?_
        rintro e w1 ⟨rfl, hb1⟩
        have HB1 := Lib.hid hb1; clear hb1
        go_wp2_with fail
        refine (HCa.out _ HB1.out).mono ?_
        rintro e w2 ⟨rfl, hb2⟩
        have HB2 := Lib.hid (HB1.out.trans (hb2.mono HB1.out.size)); clear hb2
        go_wp2_with fail
        refine (HCb.out _ HB2.out).mono ?_
        rintro e w3 ⟨rfl, hb3⟩
        have HB3 := Lib.hid (HB2.out.trans (hb3.mono HB2.out.size)); clear hb3
        go_wp2_with fail
        have hb4 := allocs_below w3 [.cells #[.string ⟨otherK.toArray⟩, (.slice none 0 0)] 45, .cells #[.int .i64 5, .string ⟨whoL.toArray⟩, .int .i64 0, .slice (some ⟨w3.heap.size, 0, none⟩) 1 1] 35]
        have hat := allocs_at w3 [.cells #[.string ⟨otherK.toArray⟩, (.slice none 0 0)] 45, .cells #[.int .i64 5, .string ⟨whoL.toArray⟩, .int .i64 0, .slice (some ⟨w3.heap.size, 0, none⟩) 1 1] 35]
        change Calls Tryz.prog 15 #[.slice (some ⟨w3.heap.size + 1, 0, none⟩) 1 1] (allocs w3 [.cells #[.string ⟨otherK.toArray⟩, (.slice none 0 0)] 45, .cells #[.int .i64 5, .string ⟨whoL.toArray⟩, .int .i64 0, .slice (some ⟨w3.heap.size, 0, none⟩) 1 1] 35]) _
        have h0 := hat 0 (by simp); have h1 := hat 1 (by simp)
        clear hat
        generalize allocs w3 [.cells #[.string ⟨otherK.toArray⟩, (.slice none 0 0)] 45, .cells #[.int .i64 5, .string ⟨whoL.toArray⟩, .int .i64 0, .slice (some ⟨w3.heap.size, 0, none⟩) 1 1] 35] = w4 at *
        have HB4 := Lib.hid (HB3.out.trans (hb4.mono HB3.out.size))
        have hin4 : SV w4 (.slice (some ⟨w3.heap.size + 1, 0, none⟩) 1 1) (inT .nil) :=
          .inr ⟨w3.heap.size + 1, 0, 1, 1, rfl, Nat.le_refl _, .slice (some ⟨w3.heap.size, 0, none⟩) 1 1, 0, rfl, Joins.cell_of_block h1 0, Joins.cell_of_block h1 1, Joins.cell_of_block h1 2, Joins.cell_of_block h1 3, .inr ⟨w3.heap.size, 0, 1, 1, rfl, Nat.le_refl _, (.slice none 0 0), 0, rfl, Joins.cell_of_block h0 0, Joins.cell_of_block h0 1, HS1.out.below HB4.out, rfl⟩, rfl⟩
        have hck := HCh.out (inT .nil) _ w4 HB4.out (in_isN HN.out) (in_wt (by have := HW.out; omega)) hin4
        rw [hin, errVal_0] at hck
        clear hin4 h0 h1 hb4
        refine hck.mono ?_
        rintro e w5 ⟨rfl, hb5⟩
        have HB5 := Lib.hid (HB4.out.trans (hb5.mono HB4.out.size))
        clear hb5 hck
        have her := HEr.out 0 w5 HB5.out
        rw [errVal_0] at her
        go_wp2_with fail
        refine her.mono ?_
        rintro e w6 ⟨rfl, hb6⟩
        have HB6 := Lib.hid (HB5.out.trans (hb6.mono HB5.out.size))
        clear hb6 her
        rw [show ((0 : Int) == 4) = false from rfl]
        have hown0 := World.ownsRow_made (e := 35) (size := 4) (base := w6.heap.size) w6 #[] 0 (Nat.le_refl _) (by decide) rfl
        have hba := HB6.out.alloc HB6.out.size (.cells #[] 35)
        have hown1 := Lib.hid hown0; have hB1 := Lib.hid hba
        have hsa : w6.heap.size ≤ (w6.alloc (.cells #[] 35)).heap.size := by simp
        have happ1 : ∀ W, (Builtin.append_ #[22, 22] 22 #[.slice (some ⟨w6.heap.size, 0, none⟩) 0 0, .slice none 0 0]).run Tryz.prog W = .ok (.slice (some ⟨w6.heap.size, 0, none⟩) 0 0) W := fun W => append_none _ _ _ W (Nat.le_refl _)
        have hbk1 := Lib.hid (show ((w6.alloc (.cells #[] 35)).alloc (.cells (List.toArray [.int .i64 2, .string ⟨whoL.toArray⟩, .int .i64 0, .slice none 0 0]) 35)).heap[w6.heap.size + 1]? = some (.cells (List.toArray [.int .i64 2, .string ⟨whoL.toArray⟩, .int .i64 0, .slice none 0 0]) 35) by
          have h := Go.heap_alloc_new (w6.alloc (.cells #[] 35)) (.cells (List.toArray [.int .i64 2, .string ⟨whoL.toArray⟩, .int .i64 0, .slice none 0 0]) 35)
          have e : (w6.alloc (.cells #[] 35)).heap.size = w6.heap.size + 1 := by simp
          rw [e] at h; exact h)
        clear hown0 hba
        have HX2 := Lib.hid hx2
        clear hx2
        go_wp2_with (first | (at_builtin; refine wpList_append_lies _ rfl _ _ 22 rfl w6.heap.size 35 i0 (.agg #[.int .i64 0, .string ⟨#[]⟩, .int .i64 0, .slice none 0 0]) 4 56 Tryz.underlying22 hi hz0 hz1 hz2 rfl (by decide) _ 0 [] rfl (hown1.out.alloc _) ⟨(w6.heap.size + 1), 0, none⟩ 1 1 [.int .i64 2, .string ⟨whoL.toArray⟩, .int .i64 0, .slice none 0 0] rfl rfl (World.news_of_block hbk1.out) (fun x hx => by simp at hx; rcases hx with rfl | rfl | rfl | rfl <;> rfl) (by decide) (by unfold maxLen; omega) (by omega) (by simp; omega) _ rfl ?_; intro g cap wb hownb hgrowb hatb hltb; have hown2 := Lib.hid hownb; have hB2 := Lib.hid (below_grown (hB1.out.alloc hB1.out.size _) hgrowb (fun k hk => Nat.le_trans HB6.out.size (hown1.out.lt k hk).1) (by have := HB6.out.size; simp; omega)); have hsb : w6.heap.size ≤ wb.heap.size := (by have := hgrowb.size; simp at this; omega); clear hownb hgrowb hatb hltb hbk1) | (at_builtin; refine wpList_append_own _ rfl _ _ 22 rfl w6.heap.size 35 i0 (.agg #[.int .i64 0, .string ⟨#[]⟩, .int .i64 0, .slice none 0 0]) 4 56 Tryz.underlying22 hi hz0 hz1 hz2 rfl (by decide) _ _ _ rfl hown2.out ⟨b2, o2, none⟩ n2 c2 xs2 rfl HX2.out.1 (fun j u hj => by rw [add_at]; exact keepCells hB2.out _ _ _ (HX2.out.2.1 j u hj)) HX2.out.2.2.1 (by unfold maxLen; omega) (by omega) hsb ?_; intro v3 wc hownc hgrowc hvnc; have hown3 := Lib.hid hownc; have hB3 := Lib.hid (below_grown hB2.out hgrowc (fun k hk => Nat.le_trans HB6.out.size (hown2.out.lt k hk).1) (by have := HB6.out.size; omega)); clear hownc hgrowc hvnc))
        have hrdx := both_rdx (show RdX (fun b => b < w.heap.size) w .nil [] from rfl) HX2.out.2.2.2
        have hlb : len (bothT .nil u) = (0 + 1 + n2) := by rw [both_len]; simp only [len]; try rw [← HL2.out]; try omega
        have hsv3 : SV wc v3 (bothT .nil u) := SVP.sv (svp_own (P := fun _ => True) (base := w6.heap.size) (xs := [] ++ (whoC ++ xs2)) (by rw [hlb]; have h := hown3.out; rw [List.append_assoc] at h; exact h) (RdX.mono (fun _ _ _ => trivial) _ _ (RdX.keep (W' := wc) (fun b _ hp => hB3.out.block b hp) _ _ hrdx)) (fun _ _ => trivial))
        have hnb : isN (bothT .nil u) = true := both_isN HN.out HN'.out
        have hwb : wt (bothT .nil u) ≤ 2100000 := both_wt HW.out
        have HNB := Lib.hid hnb; have HWB := Lib.hid hwb; have HSV3 := Lib.hid hsv3
        clear hrdx hlb hsv3 hnb hwb hown1 hown2 hown3
        have hck := HCh.out _ v3 wc hB3.out HNB.out HWB.out HSV3.out
        rw [hbo, errVal_0] at hck
        refine hck.mono ?_
        rintro e w10 ⟨rfl, hb10⟩
        have HB10 := Lib.hid (hB3.out.trans (hb10.mono hB3.out.size))
        have HSV10 := Lib.hid (HSV3.out.below hb10)
        clear hb10 hck HSV3
        have her := HEr.out 0 w10 HB10.out
        rw [errVal_0] at her
        go_wp2_with fail
        refine her.mono ?_
        rintro e w11 ⟨rfl, hb11⟩
        have HB11 := Lib.hid (HB10.out.trans (hb11.mono HB10.out.size))
        have HSV11 := Lib.hid (HSV10.out.below hb11)
        clear hb11 her HSV10
        rw [show ((0 : Int) == 4) = false from rfl]
        go_wp2_with fail
        refine (HTa.out _ HB11.out).mono ?_
        rintro e w12 ⟨rfl, hb12⟩
        have HB12 := Lib.hid (HB11.out.trans (hb12.mono HB11.out.size))
        have HSV12 := Lib.hid (HSV11.out.below hb12)
        clear hb12 HSV11
        go_wp2_with fail
        refine (HTb.out _ HB12.out).mono ?_
        rintro e w13 ⟨rfl, hb13⟩
        have HB13 := Lib.hid (HB12.out.trans (hb13.mono HB12.out.size))
        have HSV13 := Lib.hid (HSV12.out.below hb13)
        clear hb13 HSV12
        have htx := HTx.out _ v3 w13 HB13.out HNB.out HWB.out HSV13.out
        rw [hbo, if_pos rfl, errVal_0, both_txt, show txt .nil false ++ [123, 119, 104, 111, 125] ++ txt u false = A0 ++ [123, 119, 104, 111, 125] ++ B0 by rw [HA.out, HB.out]] at htx
        go_wp2_with fail
        refine htx.mono ?_
        rintro e w14 ⟨rfl, hb14⟩
        have HB14 := Lib.hid (HB13.out.trans (hb14.mono HB13.out.size))
        clear hb14 htx HSV13
        go_wp2_with fail
        go_ret
        exact ⟨by first | rfl | simp, HB14.out⟩
      · clear HX1 hl1
        obtain ⟨hn2, xs2, hx2⟩ := HX2.out _ _ _ hr2
        have HL2 := Lib.hid hn2
        have hnb2 : n2 ≤ 1100000 := by omega
        clear hn2 hr2 HX2 hl2
        go_enter Tryz.func6, Tryz.ntmps6
        go_wp2_with fail
        refine HR.out.mono ?_
        rintro e w1 ⟨rfl, hb1⟩
        have HB1 := Lib.hid hb1; clear hb1
        go_wp2_with fail
        refine (HCa.out _ HB1.out).mono ?_
        rintro e w2 ⟨rfl, hb2⟩
        have HB2 := Lib.hid (HB1.out.trans (hb2.mono HB1.out.size)); clear hb2
        go_wp2_with fail
        refine (HCb.out _ HB2.out).mono ?_
        rintro e w3 ⟨rfl, hb3⟩
        have HB3 := Lib.hid (HB2.out.trans (hb3.mono HB2.out.size)); clear hb3
        go_wp2_with fail
        have hb4 := allocs_below w3 [.cells #[.string ⟨otherK.toArray⟩, (.slice none 0 0)] 45, .cells #[.int .i64 5, .string ⟨whoL.toArray⟩, .int .i64 0, .slice (some ⟨w3.heap.size, 0, none⟩) 1 1] 35]
        have hat := allocs_at w3 [.cells #[.string ⟨otherK.toArray⟩, (.slice none 0 0)] 45, .cells #[.int .i64 5, .string ⟨whoL.toArray⟩, .int .i64 0, .slice (some ⟨w3.heap.size, 0, none⟩) 1 1] 35]
        change Calls Tryz.prog 15 #[.slice (some ⟨w3.heap.size + 1, 0, none⟩) 1 1] (allocs w3 [.cells #[.string ⟨otherK.toArray⟩, (.slice none 0 0)] 45, .cells #[.int .i64 5, .string ⟨whoL.toArray⟩, .int .i64 0, .slice (some ⟨w3.heap.size, 0, none⟩) 1 1] 35]) _
        have h0 := hat 0 (by simp); have h1 := hat 1 (by simp)
        clear hat
        generalize allocs w3 [.cells #[.string ⟨otherK.toArray⟩, (.slice none 0 0)] 45, .cells #[.int .i64 5, .string ⟨whoL.toArray⟩, .int .i64 0, .slice (some ⟨w3.heap.size, 0, none⟩) 1 1] 35] = w4 at *
        have HB4 := Lib.hid (HB3.out.trans (hb4.mono HB3.out.size))
        have hin4 : SV w4 (.slice (some ⟨w3.heap.size + 1, 0, none⟩) 1 1) (inT .nil) :=
          .inr ⟨w3.heap.size + 1, 0, 1, 1, rfl, Nat.le_refl _, .slice (some ⟨w3.heap.size, 0, none⟩) 1 1, 0, rfl, Joins.cell_of_block h1 0, Joins.cell_of_block h1 1, Joins.cell_of_block h1 2, Joins.cell_of_block h1 3, .inr ⟨w3.heap.size, 0, 1, 1, rfl, Nat.le_refl _, (.slice none 0 0), 0, rfl, Joins.cell_of_block h0 0, Joins.cell_of_block h0 1, HS1.out.below HB4.out, rfl⟩, rfl⟩
        have hck := HCh.out (inT .nil) _ w4 HB4.out (in_isN HN.out) (in_wt (by have := HW.out; omega)) hin4
        rw [hin, errVal_0] at hck
        clear hin4 h0 h1 hb4
        refine hck.mono ?_
        rintro e w5 ⟨rfl, hb5⟩
        have HB5 := Lib.hid (HB4.out.trans (hb5.mono HB4.out.size))
        clear hb5 hck
        have her := HEr.out 0 w5 HB5.out
        rw [errVal_0] at her
        go_wp2_with fail
        refine her.mono ?_
        rintro e w6 ⟨rfl, hb6⟩
        have HB6 := Lib.hid (HB5.out.trans (hb6.mono HB5.out.size))
        clear hb6 her
        rw [show ((0 : Int) == 4) = false from rfl]
        have hown0 := World.ownsRow_made (e := 35) (size := 4) (base := w6.heap.size) w6 #[] 0 (Nat.le_refl _) (by decide) rfl
        have hba := HB6.out.alloc HB6.out.size (.cells #[] 35)
        have hown1 := Lib.hid hown0; have hB1 := Lib.hid hba
        have hsa : w6.heap.size ≤ (w6.alloc (.cells #[] 35)).heap.size := by simp
        have happ1 : ∀ W, (Builtin.append_ #[22, 22] 22 #[.slice (some ⟨w6.heap.size, 0, none⟩) 0 0, .slice none 0 0]).run Tryz.prog W = .ok (.slice (some ⟨w6.heap.size, 0, none⟩) 0 0) W := fun W => append_none _ _ _ W (Nat.le_refl _)
        have hbk1 := Lib.hid (show ((w6.alloc (.cells #[] 35)).alloc (.cells (List.toArray [.int .i64 2, .string ⟨whoL.toArray⟩, .int .i64 0, .slice none 0 0]) 35)).heap[w6.heap.size + 1]? = some (.cells (List.toArray [.int .i64 2, .string ⟨whoL.toArray⟩, .int .i64 0, .slice none 0 0]) 35) by
          have h := Go.heap_alloc_new (w6.alloc (.cells #[] 35)) (.cells (List.toArray [.int .i64 2, .string ⟨whoL.toArray⟩, .int .i64 0, .slice none 0 0]) 35)
          have e : (w6.alloc (.cells #[] 35)).heap.size = w6.heap.size + 1 := by simp
          rw [e] at h; exact h)
        clear hown0 hba
        have HX2 := Lib.hid hx2
        clear hx2
        go_wp2_with (first | (at_builtin; refine wpList_append_lies _ rfl _ _ 22 rfl w6.heap.size 35 i0 (.agg #[.int .i64 0, .string ⟨#[]⟩, .int .i64 0, .slice none 0 0]) 4 56 Tryz.underlying22 hi hz0 hz1 hz2 rfl (by decide) _ 0 [] rfl (hown1.out.alloc _) ⟨(w6.heap.size + 1), 0, none⟩ 1 1 [.int .i64 2, .string ⟨whoL.toArray⟩, .int .i64 0, .slice none 0 0] rfl rfl (World.news_of_block hbk1.out) (fun x hx => by simp at hx; rcases hx with rfl | rfl | rfl | rfl <;> rfl) (by decide) (by unfold maxLen; omega) (by omega) (by simp; omega) _ rfl ?_; intro g cap wb hownb hgrowb hatb hltb; have hown2 := Lib.hid hownb; have hB2 := Lib.hid (below_grown (hB1.out.alloc hB1.out.size _) hgrowb (fun k hk => Nat.le_trans HB6.out.size (hown1.out.lt k hk).1) (by have := HB6.out.size; simp; omega)); have hsb : w6.heap.size ≤ wb.heap.size := (by have := hgrowb.size; simp at this; omega); clear hownb hgrowb hatb hltb hbk1) | (at_builtin; refine wpList_append_own _ rfl _ _ 22 rfl w6.heap.size 35 i0 (.agg #[.int .i64 0, .string ⟨#[]⟩, .int .i64 0, .slice none 0 0]) 4 56 Tryz.underlying22 hi hz0 hz1 hz2 rfl (by decide) _ _ _ rfl hown2.out ⟨b2, o2, none⟩ n2 c2 xs2 rfl HX2.out.1 (fun j u hj => by rw [add_at]; exact keepCells hB2.out _ _ _ (HX2.out.2.1 j u hj)) HX2.out.2.2.1 (by unfold maxLen; omega) (by omega) hsb ?_; intro v3 wc hownc hgrowc hvnc; have hown3 := Lib.hid hownc; have hB3 := Lib.hid (below_grown hB2.out hgrowc (fun k hk => Nat.le_trans HB6.out.size (hown2.out.lt k hk).1) (by have := HB6.out.size; omega)); clear hownc hgrowc hvnc))
        have hrdx := both_rdx (show RdX (fun b => b < w.heap.size) w .nil [] from rfl) HX2.out.2.2.2
        have hlb : len (bothT .nil u) = (0 + 1 + n2) := by rw [both_len]; simp only [len]; try rw [← HL2.out]; try omega
        have hsv3 : SV wc v3 (bothT .nil u) := SVP.sv (svp_own (P := fun _ => True) (base := w6.heap.size) (xs := [] ++ (whoC ++ xs2)) (by rw [hlb]; have h := hown3.out; rw [List.append_assoc] at h; exact h) (RdX.mono (fun _ _ _ => trivial) _ _ (RdX.keep (W' := wc) (fun b _ hp => hB3.out.block b hp) _ _ hrdx)) (fun _ _ => trivial))
        have hnb : isN (bothT .nil u) = true := both_isN HN.out HN'.out
        have hwb : wt (bothT .nil u) ≤ 2100000 := both_wt HW.out
        have HNB := Lib.hid hnb; have HWB := Lib.hid hwb; have HSV3 := Lib.hid hsv3
        clear hrdx hlb hsv3 hnb hwb hown1 hown2 hown3
        have hck := HCh.out _ v3 wc hB3.out HNB.out HWB.out HSV3.out
        rw [hbo, errVal_no (by decide)] at hck
        refine hck.mono ?_
        rintro e w10 ⟨rfl, hb10⟩
        have HB10 := Lib.hid (hB3.out.trans (hb10.mono hB3.out.size))
        have HSV10 := Lib.hid (HSV3.out.below hb10)
        clear hb10 hck HSV3
        have her := HEr.out 4 w10 HB10.out
        rw [errVal_no (by decide)] at her
        go_wp2_with fail
        refine her.mono ?_
        rintro e w11 ⟨rfl, hb11⟩
        have HB11 := Lib.hid (HB10.out.trans (hb11.mono HB10.out.size))
        have HSV11 := Lib.hid (HSV10.out.below hb11)
        clear hb11 her HSV10
        rw [show ((4 : Int) == 4) = true from rfl]
        go_wp2_with fail
        go_ret
        exact ⟨rfl, HB11.out⟩
      · clear HX1 hl1
        obtain ⟨hn2, xs2, hx2⟩ := HX2.out _ _ _ hr2
        have HL2 := Lib.hid hn2
        have hnb2 : n2 ≤ 1100000 := by omega
        clear hn2 hr2 HX2 hl2
        go_enter Tryz.func6, Tryz.ntmps6
        go_wp2_with fail
        refine HR.out.mono ?_
        rintro e w1 ⟨rfl, hb1⟩
        have HB1 := Lib.hid hb1; clear hb1
        go_wp2_with fail
        refine (HCa.out _ HB1.out).mono ?_
        rintro e w2 ⟨rfl, hb2⟩
        have HB2 := Lib.hid (HB1.out.trans (hb2.mono HB1.out.size)); clear hb2
        go_wp2_with fail
        refine (HCb.out _ HB2.out).mono ?_
        rintro e w3 ⟨rfl, hb3⟩
        have HB3 := Lib.hid (HB2.out.trans (hb3.mono HB2.out.size)); clear hb3
        go_wp2_with fail
        have hb4 := allocs_below w3 [.cells #[.string ⟨otherK.toArray⟩, (.slice none 0 0)] 45, .cells #[.int .i64 5, .string ⟨whoL.toArray⟩, .int .i64 0, .slice (some ⟨w3.heap.size, 0, none⟩) 1 1] 35]
        have hat := allocs_at w3 [.cells #[.string ⟨otherK.toArray⟩, (.slice none 0 0)] 45, .cells #[.int .i64 5, .string ⟨whoL.toArray⟩, .int .i64 0, .slice (some ⟨w3.heap.size, 0, none⟩) 1 1] 35]
        change Calls Tryz.prog 15 #[.slice (some ⟨w3.heap.size + 1, 0, none⟩) 1 1] (allocs w3 [.cells #[.string ⟨otherK.toArray⟩, (.slice none 0 0)] 45, .cells #[.int .i64 5, .string ⟨whoL.toArray⟩, .int .i64 0, .slice (some ⟨w3.heap.size, 0, none⟩) 1 1] 35]) _
        have h0 := hat 0 (by simp); have h1 := hat 1 (by simp)
        clear hat
        generalize allocs w3 [.cells #[.string ⟨otherK.toArray⟩, (.slice none 0 0)] 45, .cells #[.int .i64 5, .string ⟨whoL.toArray⟩, .int .i64 0, .slice (some ⟨w3.heap.size, 0, none⟩) 1 1] 35] = w4 at *
        have HB4 := Lib.hid (HB3.out.trans (hb4.mono HB3.out.size))
        have hin4 : SV w4 (.slice (some ⟨w3.heap.size + 1, 0, none⟩) 1 1) (inT .nil) :=
          .inr ⟨w3.heap.size + 1, 0, 1, 1, rfl, Nat.le_refl _, .slice (some ⟨w3.heap.size, 0, none⟩) 1 1, 0, rfl, Joins.cell_of_block h1 0, Joins.cell_of_block h1 1, Joins.cell_of_block h1 2, Joins.cell_of_block h1 3, .inr ⟨w3.heap.size, 0, 1, 1, rfl, Nat.le_refl _, (.slice none 0 0), 0, rfl, Joins.cell_of_block h0 0, Joins.cell_of_block h0 1, HS1.out.below HB4.out, rfl⟩, rfl⟩
        have hck := HCh.out (inT .nil) _ w4 HB4.out (in_isN HN.out) (in_wt (by have := HW.out; omega)) hin4
        rw [hin, errVal_no (by decide)] at hck
        clear hin4 h0 h1 hb4
        refine hck.mono ?_
        rintro e w5 ⟨rfl, hb5⟩
        have HB5 := Lib.hid (HB4.out.trans (hb5.mono HB4.out.size))
        clear hb5 hck
        have her := HEr.out 4 w5 HB5.out
        rw [errVal_no (by decide)] at her
        go_wp2_with fail
        refine her.mono ?_
        rintro e w6 ⟨rfl, hb6⟩
        have HB6 := Lib.hid (HB5.out.trans (hb6.mono HB5.out.size))
        clear hb6 her
        rw [show ((4 : Int) == 4) = true from rfl]
        have hown0 := World.ownsRow_made (e := 35) (size := 4) (base := w6.heap.size) w6 #[] 0 (Nat.le_refl _) (by decide) rfl
        have hba := HB6.out.alloc HB6.out.size (.cells #[] 35)
        have hown1 := Lib.hid hown0; have hB1 := Lib.hid hba
        have hsa : w6.heap.size ≤ (w6.alloc (.cells #[] 35)).heap.size := by simp
        have happ1 : ∀ W, (Builtin.append_ #[22, 22] 22 #[.slice (some ⟨w6.heap.size, 0, none⟩) 0 0, .slice none 0 0]).run Tryz.prog W = .ok (.slice (some ⟨w6.heap.size, 0, none⟩) 0 0) W := fun W => append_none _ _ _ W (Nat.le_refl _)
        have hbk1 := Lib.hid (show ((w6.alloc (.cells #[] 35)).alloc (.cells (List.toArray [.int .i64 2, .string ⟨whoL.toArray⟩, .int .i64 0, .slice none 0 0]) 35)).heap[w6.heap.size + 1]? = some (.cells (List.toArray [.int .i64 2, .string ⟨whoL.toArray⟩, .int .i64 0, .slice none 0 0]) 35) by
          have h := Go.heap_alloc_new (w6.alloc (.cells #[] 35)) (.cells (List.toArray [.int .i64 2, .string ⟨whoL.toArray⟩, .int .i64 0, .slice none 0 0]) 35)
          have e : (w6.alloc (.cells #[] 35)).heap.size = w6.heap.size + 1 := by simp
          rw [e] at h; exact h)
        clear hown0 hba
        have HX2 := Lib.hid hx2
        clear hx2
        go_wp2_with (first | (at_builtin; refine wpList_append_lies _ rfl _ _ 22 rfl w6.heap.size 35 i0 (.agg #[.int .i64 0, .string ⟨#[]⟩, .int .i64 0, .slice none 0 0]) 4 56 Tryz.underlying22 hi hz0 hz1 hz2 rfl (by decide) _ 0 [] rfl (hown1.out.alloc _) ⟨(w6.heap.size + 1), 0, none⟩ 1 1 [.int .i64 2, .string ⟨whoL.toArray⟩, .int .i64 0, .slice none 0 0] rfl rfl (World.news_of_block hbk1.out) (fun x hx => by simp at hx; rcases hx with rfl | rfl | rfl | rfl <;> rfl) (by decide) (by unfold maxLen; omega) (by omega) (by simp; omega) _ rfl ?_; intro g cap wb hownb hgrowb hatb hltb; have hown2 := Lib.hid hownb; have hB2 := Lib.hid (below_grown (hB1.out.alloc hB1.out.size _) hgrowb (fun k hk => Nat.le_trans HB6.out.size (hown1.out.lt k hk).1) (by have := HB6.out.size; simp; omega)); have hsb : w6.heap.size ≤ wb.heap.size := (by have := hgrowb.size; simp at this; omega); clear hownb hgrowb hatb hltb hbk1) | (at_builtin; refine wpList_append_own _ rfl _ _ 22 rfl w6.heap.size 35 i0 (.agg #[.int .i64 0, .string ⟨#[]⟩, .int .i64 0, .slice none 0 0]) 4 56 Tryz.underlying22 hi hz0 hz1 hz2 rfl (by decide) _ _ _ rfl hown2.out ⟨b2, o2, none⟩ n2 c2 xs2 rfl HX2.out.1 (fun j u hj => by rw [add_at]; exact keepCells hB2.out _ _ _ (HX2.out.2.1 j u hj)) HX2.out.2.2.1 (by unfold maxLen; omega) (by omega) hsb ?_; intro v3 wc hownc hgrowc hvnc; have hown3 := Lib.hid hownc; have hB3 := Lib.hid (below_grown hB2.out hgrowc (fun k hk => Nat.le_trans HB6.out.size (hown2.out.lt k hk).1) (by have := HB6.out.size; omega)); clear hownc hgrowc hvnc))
        have hrdx := both_rdx (show RdX (fun b => b < w.heap.size) w .nil [] from rfl) HX2.out.2.2.2
        have hlb : len (bothT .nil u) = (0 + 1 + n2) := by rw [both_len]; simp only [len]; try rw [← HL2.out]; try omega
        have hsv3 : SV wc v3 (bothT .nil u) := SVP.sv (svp_own (P := fun _ => True) (base := w6.heap.size) (xs := [] ++ (whoC ++ xs2)) (by rw [hlb]; have h := hown3.out; rw [List.append_assoc] at h; exact h) (RdX.mono (fun _ _ _ => trivial) _ _ (RdX.keep (W' := wc) (fun b _ hp => hB3.out.block b hp) _ _ hrdx)) (fun _ _ => trivial))
        have hnb : isN (bothT .nil u) = true := both_isN HN.out HN'.out
        have hwb : wt (bothT .nil u) ≤ 2100000 := both_wt HW.out
        have HNB := Lib.hid hnb; have HWB := Lib.hid hwb; have HSV3 := Lib.hid hsv3
        clear hrdx hlb hsv3 hnb hwb hown1 hown2 hown3
        have hck := HCh.out _ v3 wc hB3.out HNB.out HWB.out HSV3.out
        rw [hbo, errVal_0] at hck
        refine hck.mono ?_
        rintro e w10 ⟨rfl, hb10⟩
        have HB10 := Lib.hid (hB3.out.trans (hb10.mono hB3.out.size))
        have HSV10 := Lib.hid (HSV3.out.below hb10)
        clear hb10 hck HSV3
        have her := HEr.out 0 w10 HB10.out
        rw [errVal_0] at her
        go_wp2_with fail
        refine her.mono ?_
        rintro e w11 ⟨rfl, hb11⟩
        have HB11 := Lib.hid (HB10.out.trans (hb11.mono HB10.out.size))
        have HSV11 := Lib.hid (HSV10.out.below hb11)
        clear hb11 her HSV10
        rw [show ((0 : Int) == 4) = false from rfl]
        go_wp2_with fail
        refine (HTa.out _ HB11.out).mono ?_
        rintro e w12 ⟨rfl, hb12⟩
        have HB12 := Lib.hid (HB11.out.trans (hb12.mono HB11.out.size))
        have HSV12 := Lib.hid (HSV11.out.below hb12)
        clear hb12 HSV11
        go_wp2_with fail
        refine (HTb.out _ HB12.out).mono ?_
        rintro e w13 ⟨rfl, hb13⟩
        have HB13 := Lib.hid (HB12.out.trans (hb13.mono HB12.out.size))
        have HSV13 := Lib.hid (HSV12.out.below hb13)
        clear hb13 HSV12
        have htx := HTx.out _ v3 w13 HB13.out HNB.out HWB.out HSV13.out
        rw [hbo, if_pos rfl, errVal_0, both_txt, show txt .nil false ++ [123, 119, 104, 111, 125] ++ txt u false = A0 ++ [123, 119, 104, 111, 125] ++ B0 by rw [HA.out, HB.out]] at htx
        go_wp2_with fail
        refine htx.mono ?_
        rintro e w14 ⟨rfl, hb14⟩
        have HB14 := Lib.hid (HB13.out.trans (hb14.mono HB13.out.size))
        clear hb14 htx HSV13
        go_wp2_with fail
        go_ret
        exact ⟨by first | rfl | simp, HB14.out⟩
      · clear HX1 hl1
        obtain ⟨hn2, xs2, hx2⟩ := HX2.out _ _ _ hr2
        have HL2 := Lib.hid hn2
        have hnb2 : n2 ≤ 1100000 := by omega
        clear hn2 hr2 HX2 hl2
        go_enter Tryz.func6, Tryz.ntmps6
        go_wp2_with fail
        refine HR.out.mono ?_
        rintro e w1 ⟨rfl, hb1⟩
        have HB1 := Lib.hid hb1; clear hb1
        go_wp2_with fail
        refine (HCa.out _ HB1.out).mono ?_
        rintro e w2 ⟨rfl, hb2⟩
        have HB2 := Lib.hid (HB1.out.trans (hb2.mono HB1.out.size)); clear hb2
        go_wp2_with fail
        refine (HCb.out _ HB2.out).mono ?_
        rintro e w3 ⟨rfl, hb3⟩
        have HB3 := Lib.hid (HB2.out.trans (hb3.mono HB2.out.size)); clear hb3
        go_wp2_with fail
        have hb4 := allocs_below w3 [.cells #[.string ⟨otherK.toArray⟩, (.slice none 0 0)] 45, .cells #[.int .i64 5, .string ⟨whoL.toArray⟩, .int .i64 0, .slice (some ⟨w3.heap.size, 0, none⟩) 1 1] 35]
        have hat := allocs_at w3 [.cells #[.string ⟨otherK.toArray⟩, (.slice none 0 0)] 45, .cells #[.int .i64 5, .string ⟨whoL.toArray⟩, .int .i64 0, .slice (some ⟨w3.heap.size, 0, none⟩) 1 1] 35]
        change Calls Tryz.prog 15 #[.slice (some ⟨w3.heap.size + 1, 0, none⟩) 1 1] (allocs w3 [.cells #[.string ⟨otherK.toArray⟩, (.slice none 0 0)] 45, .cells #[.int .i64 5, .string ⟨whoL.toArray⟩, .int .i64 0, .slice (some ⟨w3.heap.size, 0, none⟩) 1 1] 35]) _
        have h0 := hat 0 (by simp); have h1 := hat 1 (by simp)
        clear hat
        generalize allocs w3 [.cells #[.string ⟨otherK.toArray⟩, (.slice none 0 0)] 45, .cells #[.int .i64 5, .string ⟨whoL.toArray⟩, .int .i64 0, .slice (some ⟨w3.heap.size, 0, none⟩) 1 1] 35] = w4 at *
        have HB4 := Lib.hid (HB3.out.trans (hb4.mono HB3.out.size))
        have hin4 : SV w4 (.slice (some ⟨w3.heap.size + 1, 0, none⟩) 1 1) (inT .nil) :=
          .inr ⟨w3.heap.size + 1, 0, 1, 1, rfl, Nat.le_refl _, .slice (some ⟨w3.heap.size, 0, none⟩) 1 1, 0, rfl, Joins.cell_of_block h1 0, Joins.cell_of_block h1 1, Joins.cell_of_block h1 2, Joins.cell_of_block h1 3, .inr ⟨w3.heap.size, 0, 1, 1, rfl, Nat.le_refl _, (.slice none 0 0), 0, rfl, Joins.cell_of_block h0 0, Joins.cell_of_block h0 1, HS1.out.below HB4.out, rfl⟩, rfl⟩
        have hck := HCh.out (inT .nil) _ w4 HB4.out (in_isN HN.out) (in_wt (by have := HW.out; omega)) hin4
        rw [hin, errVal_no (by decide)] at hck
        clear hin4 h0 h1 hb4
        refine hck.mono ?_
        rintro e w5 ⟨rfl, hb5⟩
        have HB5 := Lib.hid (HB4.out.trans (hb5.mono HB4.out.size))
        clear hb5 hck
        have her := HEr.out 4 w5 HB5.out
        rw [errVal_no (by decide)] at her
        go_wp2_with fail
        refine her.mono ?_
        rintro e w6 ⟨rfl, hb6⟩
        have HB6 := Lib.hid (HB5.out.trans (hb6.mono HB5.out.size))
        clear hb6 her
        rw [show ((4 : Int) == 4) = true from rfl]
        have hown0 := World.ownsRow_made (e := 35) (size := 4) (base := w6.heap.size) w6 #[] 0 (Nat.le_refl _) (by decide) rfl
        have hba := HB6.out.alloc HB6.out.size (.cells #[] 35)
        have hown1 := Lib.hid hown0; have hB1 := Lib.hid hba
        have hsa : w6.heap.size ≤ (w6.alloc (.cells #[] 35)).heap.size := by simp
        have happ1 : ∀ W, (Builtin.append_ #[22, 22] 22 #[.slice (some ⟨w6.heap.size, 0, none⟩) 0 0, .slice none 0 0]).run Tryz.prog W = .ok (.slice (some ⟨w6.heap.size, 0, none⟩) 0 0) W := fun W => append_none _ _ _ W (Nat.le_refl _)
        have hbk1 := Lib.hid (show ((w6.alloc (.cells #[] 35)).alloc (.cells (List.toArray [.int .i64 2, .string ⟨whoL.toArray⟩, .int .i64 0, .slice none 0 0]) 35)).heap[w6.heap.size + 1]? = some (.cells (List.toArray [.int .i64 2, .string ⟨whoL.toArray⟩, .int .i64 0, .slice none 0 0]) 35) by
          have h := Go.heap_alloc_new (w6.alloc (.cells #[] 35)) (.cells (List.toArray [.int .i64 2, .string ⟨whoL.toArray⟩, .int .i64 0, .slice none 0 0]) 35)
          have e : (w6.alloc (.cells #[] 35)).heap.size = w6.heap.size + 1 := by simp
          rw [e] at h; exact h)
        clear hown0 hba
        have HX2 := Lib.hid hx2
        clear hx2
        go_wp2_with (first | (at_builtin; refine wpList_append_lies _ rfl _ _ 22 rfl w6.heap.size 35 i0 (.agg #[.int .i64 0, .string ⟨#[]⟩, .int .i64 0, .slice none 0 0]) 4 56 Tryz.underlying22 hi hz0 hz1 hz2 rfl (by decide) _ 0 [] rfl (hown1.out.alloc _) ⟨(w6.heap.size + 1), 0, none⟩ 1 1 [.int .i64 2, .string ⟨whoL.toArray⟩, .int .i64 0, .slice none 0 0] rfl rfl (World.news_of_block hbk1.out) (fun x hx => by simp at hx; rcases hx with rfl | rfl | rfl | rfl <;> rfl) (by decide) (by unfold maxLen; omega) (by omega) (by simp; omega) _ rfl ?_; intro g cap wb hownb hgrowb hatb hltb; have hown2 := Lib.hid hownb; have hB2 := Lib.hid (below_grown (hB1.out.alloc hB1.out.size _) hgrowb (fun k hk => Nat.le_trans HB6.out.size (hown1.out.lt k hk).1) (by have := HB6.out.size; simp; omega)); have hsb : w6.heap.size ≤ wb.heap.size := (by have := hgrowb.size; simp at this; omega); clear hownb hgrowb hatb hltb hbk1) | (at_builtin; refine wpList_append_own _ rfl _ _ 22 rfl w6.heap.size 35 i0 (.agg #[.int .i64 0, .string ⟨#[]⟩, .int .i64 0, .slice none 0 0]) 4 56 Tryz.underlying22 hi hz0 hz1 hz2 rfl (by decide) _ _ _ rfl hown2.out ⟨b2, o2, none⟩ n2 c2 xs2 rfl HX2.out.1 (fun j u hj => by rw [add_at]; exact keepCells hB2.out _ _ _ (HX2.out.2.1 j u hj)) HX2.out.2.2.1 (by unfold maxLen; omega) (by omega) hsb ?_; intro v3 wc hownc hgrowc hvnc; have hown3 := Lib.hid hownc; have hB3 := Lib.hid (below_grown hB2.out hgrowc (fun k hk => Nat.le_trans HB6.out.size (hown2.out.lt k hk).1) (by have := HB6.out.size; omega)); clear hownc hgrowc hvnc))
        have hrdx := both_rdx (show RdX (fun b => b < w.heap.size) w .nil [] from rfl) HX2.out.2.2.2
        have hlb : len (bothT .nil u) = (0 + 1 + n2) := by rw [both_len]; simp only [len]; try rw [← HL2.out]; try omega
        have hsv3 : SV wc v3 (bothT .nil u) := SVP.sv (svp_own (P := fun _ => True) (base := w6.heap.size) (xs := [] ++ (whoC ++ xs2)) (by rw [hlb]; have h := hown3.out; rw [List.append_assoc] at h; exact h) (RdX.mono (fun _ _ _ => trivial) _ _ (RdX.keep (W' := wc) (fun b _ hp => hB3.out.block b hp) _ _ hrdx)) (fun _ _ => trivial))
        have hnb : isN (bothT .nil u) = true := both_isN HN.out HN'.out
        have hwb : wt (bothT .nil u) ≤ 2100000 := both_wt HW.out
        have HNB := Lib.hid hnb; have HWB := Lib.hid hwb; have HSV3 := Lib.hid hsv3
        clear hrdx hlb hsv3 hnb hwb hown1 hown2 hown3
        have hck := HCh.out _ v3 wc hB3.out HNB.out HWB.out HSV3.out
        rw [hbo, errVal_no (by decide)] at hck
        refine hck.mono ?_
        rintro e w10 ⟨rfl, hb10⟩
        have HB10 := Lib.hid (hB3.out.trans (hb10.mono hB3.out.size))
        have HSV10 := Lib.hid (HSV3.out.below hb10)
        clear hb10 hck HSV3
        have her := HEr.out 4 w10 HB10.out
        rw [errVal_no (by decide)] at her
        go_wp2_with fail
        refine her.mono ?_
        rintro e w11 ⟨rfl, hb11⟩
        have HB11 := Lib.hid (HB10.out.trans (hb11.mono HB10.out.size))
        have HSV11 := Lib.hid (HSV10.out.below hb11)
        clear hb11 her HSV10
        rw [show ((4 : Int) == 4) = true from rfl]
        go_wp2_with fail
        go_ret
        exact ⟨rfl, HB11.out⟩
      · obtain ⟨hn1, xs1, hx1⟩ := HX1.out _ _ _ hr1
        have HL1 := Lib.hid hn1
        have hnb1 : n1 ≤ 1100000 := by omega
        clear hn1 hr1 HX1 hl1
        clear HX2 hl2
        go_enter Tryz.func6, Tryz.ntmps6
        go_wp2_with fail
        refine HR.out.mono ?_
        rintro e w1 ⟨rfl, hb1⟩
        have HB1 := Lib.hid hb1; clear hb1
        go_wp2_with fail
        refine (HCa.out _ HB1.out).mono ?_
        rintro e w2 ⟨rfl, hb2⟩
        have HB2 := Lib.hid (HB1.out.trans (hb2.mono HB1.out.size)); clear hb2
        go_wp2_with fail
        refine (HCb.out _ HB2.out).mono ?_
        rintro e w3 ⟨rfl, hb3⟩
        have HB3 := Lib.hid (HB2.out.trans (hb3.mono HB2.out.size)); clear hb3
        go_wp2_with fail
        have hb4 := allocs_below w3 [.cells #[.string ⟨otherK.toArray⟩, (.slice (some ⟨b1, o1, none⟩) n1 c1)] 45, .cells #[.int .i64 5, .string ⟨whoL.toArray⟩, .int .i64 0, .slice (some ⟨w3.heap.size, 0, none⟩) 1 1] 35]
        have hat := allocs_at w3 [.cells #[.string ⟨otherK.toArray⟩, (.slice (some ⟨b1, o1, none⟩) n1 c1)] 45, .cells #[.int .i64 5, .string ⟨whoL.toArray⟩, .int .i64 0, .slice (some ⟨w3.heap.size, 0, none⟩) 1 1] 35]
        change Calls Tryz.prog 15 #[.slice (some ⟨w3.heap.size + 1, 0, none⟩) 1 1] (allocs w3 [.cells #[.string ⟨otherK.toArray⟩, (.slice (some ⟨b1, o1, none⟩) n1 c1)] 45, .cells #[.int .i64 5, .string ⟨whoL.toArray⟩, .int .i64 0, .slice (some ⟨w3.heap.size, 0, none⟩) 1 1] 35]) _
        have h0 := hat 0 (by simp); have h1 := hat 1 (by simp)
        clear hat
        generalize allocs w3 [.cells #[.string ⟨otherK.toArray⟩, (.slice (some ⟨b1, o1, none⟩) n1 c1)] 45, .cells #[.int .i64 5, .string ⟨whoL.toArray⟩, .int .i64 0, .slice (some ⟨w3.heap.size, 0, none⟩) 1 1] 35] = w4 at *
        have HB4 := Lib.hid (HB3.out.trans (hb4.mono HB3.out.size))
        have hin4 : SV w4 (.slice (some ⟨w3.heap.size + 1, 0, none⟩) 1 1) (inT t) :=
          .inr ⟨w3.heap.size + 1, 0, 1, 1, rfl, Nat.le_refl _, .slice (some ⟨w3.heap.size, 0, none⟩) 1 1, 0, rfl, Joins.cell_of_block h1 0, Joins.cell_of_block h1 1, Joins.cell_of_block h1 2, Joins.cell_of_block h1 3, .inr ⟨w3.heap.size, 0, 1, 1, rfl, Nat.le_refl _, (.slice (some ⟨b1, o1, none⟩) n1 c1), 0, rfl, Joins.cell_of_block h0 0, Joins.cell_of_block h0 1, HS1.out.below HB4.out, rfl⟩, rfl⟩
        have hck := HCh.out (inT t) _ w4 HB4.out (in_isN HN.out) (in_wt (by have := HW.out; omega)) hin4
        rw [hin, errVal_0] at hck
        clear hin4 h0 h1 hb4
        refine hck.mono ?_
        rintro e w5 ⟨rfl, hb5⟩
        have HB5 := Lib.hid (HB4.out.trans (hb5.mono HB4.out.size))
        clear hb5 hck
        have her := HEr.out 0 w5 HB5.out
        rw [errVal_0] at her
        go_wp2_with fail
        refine her.mono ?_
        rintro e w6 ⟨rfl, hb6⟩
        have HB6 := Lib.hid (HB5.out.trans (hb6.mono HB5.out.size))
        clear hb6 her
        rw [show ((0 : Int) == 4) = false from rfl]
        have hown0 := World.ownsRow_made (e := 35) (size := 4) (base := w6.heap.size) w6 #[] 0 (Nat.le_refl _) (by decide) rfl
        have hba := HB6.out.alloc HB6.out.size (.cells #[] 35)
        have hne1 : ∀ (j : Nat) u, xs1[j]? = some u → (w6.alloc (.cells #[] 35)).cell? ((⟨b1, o1, none⟩ : Addr).add j) = some u := fun j u hj => by
          rw [add_at]; exact keepCells hba _ _ _ (hx1.2.1 j u hj)
        have HNE1 := Lib.hid hne1; have HOWN0 := Lib.hid hown0; have HBA := Lib.hid hba; have HX1 := Lib.hid hx1
        clear hne1 hown0 hba hx1
        go_wp2_with (first | (at_builtin; refine wpList_append_own _ rfl _ _ 22 rfl w6.heap.size 35 i0 (.agg #[.int .i64 0, .string ⟨#[]⟩, .int .i64 0, .slice none 0 0]) 4 56 Tryz.underlying22 hi hz0 hz1 hz2 rfl (by decide) _ 0 [] rfl HOWN0.out ⟨b1, o1, none⟩ n1 c1 xs1 rfl HX1.out.1 HNE1.out HX1.out.2.2.1 (by unfold maxLen; omega) (by omega) (by simp) ?_; intro va wa howna hgrowa hvna; have hown1 := Lib.hid (show wa.ownsRow w6.heap.size 35 4 va n1 xs1 by simpa using howna); have hB1 := Lib.hid (below_grown HBA.out hgrowa (fun k hk => Nat.le_trans HB6.out.size (HOWN0.out.lt k hk).1) (by have := HB6.out.size; simp; omega)); have hsa : w6.heap.size ≤ wa.heap.size := (by have := hgrowa.size; simp at this; omega); have hbk1 := Lib.hid (Go.heap_alloc_new wa (.cells (List.toArray [.int .i64 2, .string ⟨whoL.toArray⟩, .int .i64 0, .slice none 0 0]) 35)); clear howna hgrowa hvna HBA HOWN0 HNE1) | (at_builtin; refine wpList_append_lies _ rfl _ _ 22 rfl w6.heap.size 35 i0 (.agg #[.int .i64 0, .string ⟨#[]⟩, .int .i64 0, .slice none 0 0]) 4 56 Tryz.underlying22 hi hz0 hz1 hz2 rfl (by decide) _ n1 xs1 rfl (hown1.out.alloc _) ⟨wa.heap.size, 0, none⟩ 1 1 [.int .i64 2, .string ⟨whoL.toArray⟩, .int .i64 0, .slice none 0 0] rfl rfl (World.news_of_block hbk1.out) (fun x hx => by simp at hx; rcases hx with rfl | rfl | rfl | rfl <;> rfl) (by decide) (by unfold maxLen; omega) (by omega) (by simp; omega) _ rfl ?_; intro g cap wb hownb hgrowb hatb hltb; have hown2 := Lib.hid hownb; have hB2 := Lib.hid (below_grown (hB1.out.alloc hB1.out.size _) hgrowb (fun k hk => Nat.le_trans HB6.out.size (hown1.out.lt k hk).1) (by have := HB6.out.size; simp; omega)); have hsb : w6.heap.size ≤ wb.heap.size := (by have := hgrowb.size; simp at this; omega); clear hownb hgrowb hatb hltb hbk1; have hcap3 : (n1 + 1) ≤ cap := (own_cells hown2.out).1))
        have hown3 := hown2; have hB3 := hB2
        have hrdx := both_rdx HX1.out.2.2.2 (show RdX (fun b => b < w.heap.size) w .nil [] from rfl)
        have hlb : len (bothT t .nil) = (n1 + 1) := by rw [both_len]; rw [← HL1.out]; try simp only [len]; try omega
        have hsv3 : SV wb (.slice (some ⟨g, 0, none⟩) (n1 + 1) cap) (bothT t .nil) := SVP.sv (svp_own (P := fun _ => True) (base := w6.heap.size) (xs := xs1 ++ (whoC ++ [])) (by rw [hlb]; have h := hown3.out; rw [List.append_nil]; exact h) (RdX.mono (fun _ _ _ => trivial) _ _ (RdX.keep (W' := wb) (fun b _ hp => hB3.out.block b hp) _ _ hrdx)) (fun _ _ => trivial))
        have hnb : isN (bothT t .nil) = true := both_isN HN.out HN'.out
        have hwb : wt (bothT t .nil) ≤ 2100000 := both_wt HW.out
        have HNB := Lib.hid hnb; have HWB := Lib.hid hwb; have HSV3 := Lib.hid hsv3
        clear hrdx hlb hsv3 hnb hwb hown1 hown2 hown3
        have hck := HCh.out _ (.slice (some ⟨g, 0, none⟩) (n1 + 1) cap) wb hB3.out HNB.out HWB.out HSV3.out
        rw [hbo, errVal_0] at hck
        refine hck.mono ?_
        rintro e w10 ⟨rfl, hb10⟩
        have HB10 := Lib.hid (hB3.out.trans (hb10.mono hB3.out.size))
        have HSV10 := Lib.hid (HSV3.out.below hb10)
        clear hb10 hck HSV3
        have her := HEr.out 0 w10 HB10.out
        rw [errVal_0] at her
        go_wp2_with fail
        refine her.mono ?_
        rintro e w11 ⟨rfl, hb11⟩
        have HB11 := Lib.hid (HB10.out.trans (hb11.mono HB10.out.size))
        have HSV11 := Lib.hid (HSV10.out.below hb11)
        clear hb11 her HSV10
        rw [show ((0 : Int) == 4) = false from rfl]
        go_wp2_with fail
        refine (HTa.out _ HB11.out).mono ?_
        rintro e w12 ⟨rfl, hb12⟩
        have HB12 := Lib.hid (HB11.out.trans (hb12.mono HB11.out.size))
        have HSV12 := Lib.hid (HSV11.out.below hb12)
        clear hb12 HSV11
        go_wp2_with fail
        refine (HTb.out _ HB12.out).mono ?_
        rintro e w13 ⟨rfl, hb13⟩
        have HB13 := Lib.hid (HB12.out.trans (hb13.mono HB12.out.size))
        have HSV13 := Lib.hid (HSV12.out.below hb13)
        clear hb13 HSV12
        have htx := HTx.out _ (.slice (some ⟨g, 0, none⟩) (n1 + 1) cap) w13 HB13.out HNB.out HWB.out HSV13.out
        rw [hbo, if_pos rfl, errVal_0, both_txt, show txt t false ++ [123, 119, 104, 111, 125] ++ txt .nil false = A0 ++ [123, 119, 104, 111, 125] ++ B0 by rw [HA.out, HB.out]] at htx
        go_wp2_with fail
        refine htx.mono ?_
        rintro e w14 ⟨rfl, hb14⟩
        have HB14 := Lib.hid (HB13.out.trans (hb14.mono HB13.out.size))
        clear hb14 htx HSV13
        go_wp2_with fail
        go_ret
        exact ⟨by first | rfl | simp, HB14.out⟩
      · obtain ⟨hn1, xs1, hx1⟩ := HX1.out _ _ _ hr1
        have HL1 := Lib.hid hn1
        have hnb1 : n1 ≤ 1100000 := by omega
        clear hn1 hr1 HX1 hl1
        clear HX2 hl2
        go_enter Tryz.func6, Tryz.ntmps6
        go_wp2_with fail
        refine HR.out.mono ?_
        rintro e w1 ⟨rfl, hb1⟩
        have HB1 := Lib.hid hb1; clear hb1
        go_wp2_with fail
        refine (HCa.out _ HB1.out).mono ?_
        rintro e w2 ⟨rfl, hb2⟩
        have HB2 := Lib.hid (HB1.out.trans (hb2.mono HB1.out.size)); clear hb2
        go_wp2_with fail
        refine (HCb.out _ HB2.out).mono ?_
        rintro e w3 ⟨rfl, hb3⟩
        have HB3 := Lib.hid (HB2.out.trans (hb3.mono HB2.out.size)); clear hb3
        go_wp2_with fail
        have hb4 := allocs_below w3 [.cells #[.string ⟨otherK.toArray⟩, (.slice (some ⟨b1, o1, none⟩) n1 c1)] 45, .cells #[.int .i64 5, .string ⟨whoL.toArray⟩, .int .i64 0, .slice (some ⟨w3.heap.size, 0, none⟩) 1 1] 35]
        have hat := allocs_at w3 [.cells #[.string ⟨otherK.toArray⟩, (.slice (some ⟨b1, o1, none⟩) n1 c1)] 45, .cells #[.int .i64 5, .string ⟨whoL.toArray⟩, .int .i64 0, .slice (some ⟨w3.heap.size, 0, none⟩) 1 1] 35]
        change Calls Tryz.prog 15 #[.slice (some ⟨w3.heap.size + 1, 0, none⟩) 1 1] (allocs w3 [.cells #[.string ⟨otherK.toArray⟩, (.slice (some ⟨b1, o1, none⟩) n1 c1)] 45, .cells #[.int .i64 5, .string ⟨whoL.toArray⟩, .int .i64 0, .slice (some ⟨w3.heap.size, 0, none⟩) 1 1] 35]) _
        have h0 := hat 0 (by simp); have h1 := hat 1 (by simp)
        clear hat
        generalize allocs w3 [.cells #[.string ⟨otherK.toArray⟩, (.slice (some ⟨b1, o1, none⟩) n1 c1)] 45, .cells #[.int .i64 5, .string ⟨whoL.toArray⟩, .int .i64 0, .slice (some ⟨w3.heap.size, 0, none⟩) 1 1] 35] = w4 at *
        have HB4 := Lib.hid (HB3.out.trans (hb4.mono HB3.out.size))
        have hin4 : SV w4 (.slice (some ⟨w3.heap.size + 1, 0, none⟩) 1 1) (inT t) :=
          .inr ⟨w3.heap.size + 1, 0, 1, 1, rfl, Nat.le_refl _, .slice (some ⟨w3.heap.size, 0, none⟩) 1 1, 0, rfl, Joins.cell_of_block h1 0, Joins.cell_of_block h1 1, Joins.cell_of_block h1 2, Joins.cell_of_block h1 3, .inr ⟨w3.heap.size, 0, 1, 1, rfl, Nat.le_refl _, (.slice (some ⟨b1, o1, none⟩) n1 c1), 0, rfl, Joins.cell_of_block h0 0, Joins.cell_of_block h0 1, HS1.out.below HB4.out, rfl⟩, rfl⟩
        have hck := HCh.out (inT t) _ w4 HB4.out (in_isN HN.out) (in_wt (by have := HW.out; omega)) hin4
        rw [hin, errVal_0] at hck
        clear hin4 h0 h1 hb4
        refine hck.mono ?_
        rintro e w5 ⟨rfl, hb5⟩
        have HB5 := Lib.hid (HB4.out.trans (hb5.mono HB4.out.size))
        clear hb5 hck
        have her := HEr.out 0 w5 HB5.out
        rw [errVal_0] at her
        go_wp2_with fail
        refine her.mono ?_
        rintro e w6 ⟨rfl, hb6⟩
        have HB6 := Lib.hid (HB5.out.trans (hb6.mono HB5.out.size))
        clear hb6 her
        rw [show ((0 : Int) == 4) = false from rfl]
        have hown0 := World.ownsRow_made (e := 35) (size := 4) (base := w6.heap.size) w6 #[] 0 (Nat.le_refl _) (by decide) rfl
        have hba := HB6.out.alloc HB6.out.size (.cells #[] 35)
        have hne1 : ∀ (j : Nat) u, xs1[j]? = some u → (w6.alloc (.cells #[] 35)).cell? ((⟨b1, o1, none⟩ : Addr).add j) = some u := fun j u hj => by
          rw [add_at]; exact keepCells hba _ _ _ (hx1.2.1 j u hj)
        have HNE1 := Lib.hid hne1; have HOWN0 := Lib.hid hown0; have HBA := Lib.hid hba; have HX1 := Lib.hid hx1
        clear hne1 hown0 hba hx1
        go_wp2_with (first | (at_builtin; refine wpList_append_own _ rfl _ _ 22 rfl w6.heap.size 35 i0 (.agg #[.int .i64 0, .string ⟨#[]⟩, .int .i64 0, .slice none 0 0]) 4 56 Tryz.underlying22 hi hz0 hz1 hz2 rfl (by decide) _ 0 [] rfl HOWN0.out ⟨b1, o1, none⟩ n1 c1 xs1 rfl HX1.out.1 HNE1.out HX1.out.2.2.1 (by unfold maxLen; omega) (by omega) (by simp) ?_; intro va wa howna hgrowa hvna; have hown1 := Lib.hid (show wa.ownsRow w6.heap.size 35 4 va n1 xs1 by simpa using howna); have hB1 := Lib.hid (below_grown HBA.out hgrowa (fun k hk => Nat.le_trans HB6.out.size (HOWN0.out.lt k hk).1) (by have := HB6.out.size; simp; omega)); have hsa : w6.heap.size ≤ wa.heap.size := (by have := hgrowa.size; simp at this; omega); have hbk1 := Lib.hid (Go.heap_alloc_new wa (.cells (List.toArray [.int .i64 2, .string ⟨whoL.toArray⟩, .int .i64 0, .slice none 0 0]) 35)); clear howna hgrowa hvna HBA HOWN0 HNE1) | (at_builtin; refine wpList_append_lies _ rfl _ _ 22 rfl w6.heap.size 35 i0 (.agg #[.int .i64 0, .string ⟨#[]⟩, .int .i64 0, .slice none 0 0]) 4 56 Tryz.underlying22 hi hz0 hz1 hz2 rfl (by decide) _ n1 xs1 rfl (hown1.out.alloc _) ⟨wa.heap.size, 0, none⟩ 1 1 [.int .i64 2, .string ⟨whoL.toArray⟩, .int .i64 0, .slice none 0 0] rfl rfl (World.news_of_block hbk1.out) (fun x hx => by simp at hx; rcases hx with rfl | rfl | rfl | rfl <;> rfl) (by decide) (by unfold maxLen; omega) (by omega) (by simp; omega) _ rfl ?_; intro g cap wb hownb hgrowb hatb hltb; have hown2 := Lib.hid hownb; have hB2 := Lib.hid (below_grown (hB1.out.alloc hB1.out.size _) hgrowb (fun k hk => Nat.le_trans HB6.out.size (hown1.out.lt k hk).1) (by have := HB6.out.size; simp; omega)); have hsb : w6.heap.size ≤ wb.heap.size := (by have := hgrowb.size; simp at this; omega); clear hownb hgrowb hatb hltb hbk1; have hcap3 : (n1 + 1) ≤ cap := (own_cells hown2.out).1))
        have hown3 := hown2; have hB3 := hB2
        have hrdx := both_rdx HX1.out.2.2.2 (show RdX (fun b => b < w.heap.size) w .nil [] from rfl)
        have hlb : len (bothT t .nil) = (n1 + 1) := by rw [both_len]; rw [← HL1.out]; try simp only [len]; try omega
        have hsv3 : SV wb (.slice (some ⟨g, 0, none⟩) (n1 + 1) cap) (bothT t .nil) := SVP.sv (svp_own (P := fun _ => True) (base := w6.heap.size) (xs := xs1 ++ (whoC ++ [])) (by rw [hlb]; have h := hown3.out; rw [List.append_nil]; exact h) (RdX.mono (fun _ _ _ => trivial) _ _ (RdX.keep (W' := wb) (fun b _ hp => hB3.out.block b hp) _ _ hrdx)) (fun _ _ => trivial))
        have hnb : isN (bothT t .nil) = true := both_isN HN.out HN'.out
        have hwb : wt (bothT t .nil) ≤ 2100000 := both_wt HW.out
        have HNB := Lib.hid hnb; have HWB := Lib.hid hwb; have HSV3 := Lib.hid hsv3
        clear hrdx hlb hsv3 hnb hwb hown1 hown2 hown3
        have hck := HCh.out _ (.slice (some ⟨g, 0, none⟩) (n1 + 1) cap) wb hB3.out HNB.out HWB.out HSV3.out
        rw [hbo, errVal_no (by decide)] at hck
        refine hck.mono ?_
        rintro e w10 ⟨rfl, hb10⟩
        have HB10 := Lib.hid (hB3.out.trans (hb10.mono hB3.out.size))
        have HSV10 := Lib.hid (HSV3.out.below hb10)
        clear hb10 hck HSV3
        have her := HEr.out 4 w10 HB10.out
        rw [errVal_no (by decide)] at her
        go_wp2_with fail
        refine her.mono ?_
        rintro e w11 ⟨rfl, hb11⟩
        have HB11 := Lib.hid (HB10.out.trans (hb11.mono HB10.out.size))
        have HSV11 := Lib.hid (HSV10.out.below hb11)
        clear hb11 her HSV10
        rw [show ((4 : Int) == 4) = true from rfl]
        go_wp2_with fail
        go_ret
        exact ⟨rfl, HB11.out⟩
      · obtain ⟨hn1, xs1, hx1⟩ := HX1.out _ _ _ hr1
        have HL1 := Lib.hid hn1
        have hnb1 : n1 ≤ 1100000 := by omega
        clear hn1 hr1 HX1 hl1
        clear HX2 hl2
        go_enter Tryz.func6, Tryz.ntmps6
        go_wp2_with fail
        refine HR.out.mono ?_
        rintro e w1 ⟨rfl, hb1⟩
        have HB1 := Lib.hid hb1; clear hb1
        go_wp2_with fail
        refine (HCa.out _ HB1.out).mono ?_
        rintro e w2 ⟨rfl, hb2⟩
        have HB2 := Lib.hid (HB1.out.trans (hb2.mono HB1.out.size)); clear hb2
        go_wp2_with fail
        refine (HCb.out _ HB2.out).mono ?_
        rintro e w3 ⟨rfl, hb3⟩
        have HB3 := Lib.hid (HB2.out.trans (hb3.mono HB2.out.size)); clear hb3
        go_wp2_with fail
        have hb4 := allocs_below w3 [.cells #[.string ⟨otherK.toArray⟩, (.slice (some ⟨b1, o1, none⟩) n1 c1)] 45, .cells #[.int .i64 5, .string ⟨whoL.toArray⟩, .int .i64 0, .slice (some ⟨w3.heap.size, 0, none⟩) 1 1] 35]
        have hat := allocs_at w3 [.cells #[.string ⟨otherK.toArray⟩, (.slice (some ⟨b1, o1, none⟩) n1 c1)] 45, .cells #[.int .i64 5, .string ⟨whoL.toArray⟩, .int .i64 0, .slice (some ⟨w3.heap.size, 0, none⟩) 1 1] 35]
        change Calls Tryz.prog 15 #[.slice (some ⟨w3.heap.size + 1, 0, none⟩) 1 1] (allocs w3 [.cells #[.string ⟨otherK.toArray⟩, (.slice (some ⟨b1, o1, none⟩) n1 c1)] 45, .cells #[.int .i64 5, .string ⟨whoL.toArray⟩, .int .i64 0, .slice (some ⟨w3.heap.size, 0, none⟩) 1 1] 35]) _
        have h0 := hat 0 (by simp); have h1 := hat 1 (by simp)
        clear hat
        generalize allocs w3 [.cells #[.string ⟨otherK.toArray⟩, (.slice (some ⟨b1, o1, none⟩) n1 c1)] 45, .cells #[.int .i64 5, .string ⟨whoL.toArray⟩, .int .i64 0, .slice (some ⟨w3.heap.size, 0, none⟩) 1 1] 35] = w4 at *
        have HB4 := Lib.hid (HB3.out.trans (hb4.mono HB3.out.size))
        have hin4 : SV w4 (.slice (some ⟨w3.heap.size + 1, 0, none⟩) 1 1) (inT t) :=
          .inr ⟨w3.heap.size + 1, 0, 1, 1, rfl, Nat.le_refl _, .slice (some ⟨w3.heap.size, 0, none⟩) 1 1, 0, rfl, Joins.cell_of_block h1 0, Joins.cell_of_block h1 1, Joins.cell_of_block h1 2, Joins.cell_of_block h1 3, .inr ⟨w3.heap.size, 0, 1, 1, rfl, Nat.le_refl _, (.slice (some ⟨b1, o1, none⟩) n1 c1), 0, rfl, Joins.cell_of_block h0 0, Joins.cell_of_block h0 1, HS1.out.below HB4.out, rfl⟩, rfl⟩
        have hck := HCh.out (inT t) _ w4 HB4.out (in_isN HN.out) (in_wt (by have := HW.out; omega)) hin4
        rw [hin, errVal_no (by decide)] at hck
        clear hin4 h0 h1 hb4
        refine hck.mono ?_
        rintro e w5 ⟨rfl, hb5⟩
        have HB5 := Lib.hid (HB4.out.trans (hb5.mono HB4.out.size))
        clear hb5 hck
        have her := HEr.out 4 w5 HB5.out
        rw [errVal_no (by decide)] at her
        go_wp2_with fail
        refine her.mono ?_
        rintro e w6 ⟨rfl, hb6⟩
        have HB6 := Lib.hid (HB5.out.trans (hb6.mono HB5.out.size))
        clear hb6 her
        rw [show ((4 : Int) == 4) = true from rfl]
        have hown0 := World.ownsRow_made (e := 35) (size := 4) (base := w6.heap.size) w6 #[] 0 (Nat.le_refl _) (by decide) rfl
        have hba := HB6.out.alloc HB6.out.size (.cells #[] 35)
        have hne1 : ∀ (j : Nat) u, xs1[j]? = some u → (w6.alloc (.cells #[] 35)).cell? ((⟨b1, o1, none⟩ : Addr).add j) = some u := fun j u hj => by
          rw [add_at]; exact keepCells hba _ _ _ (hx1.2.1 j u hj)
        have HNE1 := Lib.hid hne1; have HOWN0 := Lib.hid hown0; have HBA := Lib.hid hba; have HX1 := Lib.hid hx1
        clear hne1 hown0 hba hx1
        go_wp2_with (first | (at_builtin; refine wpList_append_own _ rfl _ _ 22 rfl w6.heap.size 35 i0 (.agg #[.int .i64 0, .string ⟨#[]⟩, .int .i64 0, .slice none 0 0]) 4 56 Tryz.underlying22 hi hz0 hz1 hz2 rfl (by decide) _ 0 [] rfl HOWN0.out ⟨b1, o1, none⟩ n1 c1 xs1 rfl HX1.out.1 HNE1.out HX1.out.2.2.1 (by unfold maxLen; omega) (by omega) (by simp) ?_; intro va wa howna hgrowa hvna; have hown1 := Lib.hid (show wa.ownsRow w6.heap.size 35 4 va n1 xs1 by simpa using howna); have hB1 := Lib.hid (below_grown HBA.out hgrowa (fun k hk => Nat.le_trans HB6.out.size (HOWN0.out.lt k hk).1) (by have := HB6.out.size; simp; omega)); have hsa : w6.heap.size ≤ wa.heap.size := (by have := hgrowa.size; simp at this; omega); have hbk1 := Lib.hid (Go.heap_alloc_new wa (.cells (List.toArray [.int .i64 2, .string ⟨whoL.toArray⟩, .int .i64 0, .slice none 0 0]) 35)); clear howna hgrowa hvna HBA HOWN0 HNE1) | (at_builtin; refine wpList_append_lies _ rfl _ _ 22 rfl w6.heap.size 35 i0 (.agg #[.int .i64 0, .string ⟨#[]⟩, .int .i64 0, .slice none 0 0]) 4 56 Tryz.underlying22 hi hz0 hz1 hz2 rfl (by decide) _ n1 xs1 rfl (hown1.out.alloc _) ⟨wa.heap.size, 0, none⟩ 1 1 [.int .i64 2, .string ⟨whoL.toArray⟩, .int .i64 0, .slice none 0 0] rfl rfl (World.news_of_block hbk1.out) (fun x hx => by simp at hx; rcases hx with rfl | rfl | rfl | rfl <;> rfl) (by decide) (by unfold maxLen; omega) (by omega) (by simp; omega) _ rfl ?_; intro g cap wb hownb hgrowb hatb hltb; have hown2 := Lib.hid hownb; have hB2 := Lib.hid (below_grown (hB1.out.alloc hB1.out.size _) hgrowb (fun k hk => Nat.le_trans HB6.out.size (hown1.out.lt k hk).1) (by have := HB6.out.size; simp; omega)); have hsb : w6.heap.size ≤ wb.heap.size := (by have := hgrowb.size; simp at this; omega); clear hownb hgrowb hatb hltb hbk1; have hcap3 : (n1 + 1) ≤ cap := (own_cells hown2.out).1))
        have hown3 := hown2; have hB3 := hB2
        have hrdx := both_rdx HX1.out.2.2.2 (show RdX (fun b => b < w.heap.size) w .nil [] from rfl)
        have hlb : len (bothT t .nil) = (n1 + 1) := by rw [both_len]; rw [← HL1.out]; try simp only [len]; try omega
        have hsv3 : SV wb (.slice (some ⟨g, 0, none⟩) (n1 + 1) cap) (bothT t .nil) := SVP.sv (svp_own (P := fun _ => True) (base := w6.heap.size) (xs := xs1 ++ (whoC ++ [])) (by rw [hlb]; have h := hown3.out; rw [List.append_nil]; exact h) (RdX.mono (fun _ _ _ => trivial) _ _ (RdX.keep (W' := wb) (fun b _ hp => hB3.out.block b hp) _ _ hrdx)) (fun _ _ => trivial))
        have hnb : isN (bothT t .nil) = true := both_isN HN.out HN'.out
        have hwb : wt (bothT t .nil) ≤ 2100000 := both_wt HW.out
        have HNB := Lib.hid hnb; have HWB := Lib.hid hwb; have HSV3 := Lib.hid hsv3
        clear hrdx hlb hsv3 hnb hwb hown1 hown2 hown3
        have hck := HCh.out _ (.slice (some ⟨g, 0, none⟩) (n1 + 1) cap) wb hB3.out HNB.out HWB.out HSV3.out
        rw [hbo, errVal_0] at hck
        refine hck.mono ?_
        rintro e w10 ⟨rfl, hb10⟩
        have HB10 := Lib.hid (hB3.out.trans (hb10.mono hB3.out.size))
        have HSV10 := Lib.hid (HSV3.out.below hb10)
        clear hb10 hck HSV3
        have her := HEr.out 0 w10 HB10.out
        rw [errVal_0] at her
        go_wp2_with fail
        refine her.mono ?_
        rintro e w11 ⟨rfl, hb11⟩
        have HB11 := Lib.hid (HB10.out.trans (hb11.mono HB10.out.size))
        have HSV11 := Lib.hid (HSV10.out.below hb11)
        clear hb11 her HSV10
        rw [show ((0 : Int) == 4) = false from rfl]
        go_wp2_with fail
        refine (HTa.out _ HB11.out).mono ?_
        rintro e w12 ⟨rfl, hb12⟩
        have HB12 := Lib.hid (HB11.out.trans (hb12.mono HB11.out.size))
        have HSV12 := Lib.hid (HSV11.out.below hb12)
        clear hb12 HSV11
        go_wp2_with fail
        refine (HTb.out _ HB12.out).mono ?_
        rintro e w13 ⟨rfl, hb13⟩
        have HB13 := Lib.hid (HB12.out.trans (hb13.mono HB12.out.size))
        have HSV13 := Lib.hid (HSV12.out.below hb13)
        clear hb13 HSV12
        have htx := HTx.out _ (.slice (some ⟨g, 0, none⟩) (n1 + 1) cap) w13 HB13.out HNB.out HWB.out HSV13.out
        rw [hbo, if_pos rfl, errVal_0, both_txt, show txt t false ++ [123, 119, 104, 111, 125] ++ txt .nil false = A0 ++ [123, 119, 104, 111, 125] ++ B0 by rw [HA.out, HB.out]] at htx
        go_wp2_with fail
        refine htx.mono ?_
        rintro e w14 ⟨rfl, hb14⟩
        have HB14 := Lib.hid (HB13.out.trans (hb14.mono HB13.out.size))
        clear hb14 htx HSV13
        go_wp2_with fail
        go_ret
        exact ⟨by first | rfl | simp, HB14.out⟩
      · obtain ⟨hn1, xs1, hx1⟩ := HX1.out _ _ _ hr1
        have HL1 := Lib.hid hn1
        have hnb1 : n1 ≤ 1100000 := by omega
        clear hn1 hr1 HX1 hl1
        clear HX2 hl2
        go_enter Tryz.func6, Tryz.ntmps6
        go_wp2_with fail
        refine HR.out.mono ?_
        rintro e w1 ⟨rfl, hb1⟩
        have HB1 := Lib.hid hb1; clear hb1
        go_wp2_with fail
        refine (HCa.out _ HB1.out).mono ?_
        rintro e w2 ⟨rfl, hb2⟩
        have HB2 := Lib.hid (HB1.out.trans (hb2.mono HB1.out.size)); clear hb2
        go_wp2_with fail
        refine (HCb.out _ HB2.out).mono ?_
        rintro e w3 ⟨rfl, hb3⟩
        have HB3 := Lib.hid (HB2.out.trans (hb3.mono HB2.out.size)); clear hb3
        go_wp2_with fail
        have hb4 := allocs_below w3 [.cells #[.string ⟨otherK.toArray⟩, (.slice (some ⟨b1, o1, none⟩) n1 c1)] 45, .cells #[.int .i64 5, .string ⟨whoL.toArray⟩, .int .i64 0, .slice (some ⟨w3.heap.size, 0, none⟩) 1 1] 35]
        have hat := allocs_at w3 [.cells #[.string ⟨otherK.toArray⟩, (.slice (some ⟨b1, o1, none⟩) n1 c1)] 45, .cells #[.int .i64 5, .string ⟨whoL.toArray⟩, .int .i64 0, .slice (some ⟨w3.heap.size, 0, none⟩) 1 1] 35]
        change Calls Tryz.prog 15 #[.slice (some ⟨w3.heap.size + 1, 0, none⟩) 1 1] (allocs w3 [.cells #[.string ⟨otherK.toArray⟩, (.slice (some ⟨b1, o1, none⟩) n1 c1)] 45, .cells #[.int .i64 5, .string ⟨whoL.toArray⟩, .int .i64 0, .slice (some ⟨w3.heap.size, 0, none⟩) 1 1] 35]) _
        have h0 := hat 0 (by simp); have h1 := hat 1 (by simp)
        clear hat
        generalize allocs w3 [.cells #[.string ⟨otherK.toArray⟩, (.slice (some ⟨b1, o1, none⟩) n1 c1)] 45, .cells #[.int .i64 5, .string ⟨whoL.toArray⟩, .int .i64 0, .slice (some ⟨w3.heap.size, 0, none⟩) 1 1] 35] = w4 at *
        have HB4 := Lib.hid (HB3.out.trans (hb4.mono HB3.out.size))
        have hin4 : SV w4 (.slice (some ⟨w3.heap.size + 1, 0, none⟩) 1 1) (inT t) :=
          .inr ⟨w3.heap.size + 1, 0, 1, 1, rfl, Nat.le_refl _, .slice (some ⟨w3.heap.size, 0, none⟩) 1 1, 0, rfl, Joins.cell_of_block h1 0, Joins.cell_of_block h1 1, Joins.cell_of_block h1 2, Joins.cell_of_block h1 3, .inr ⟨w3.heap.size, 0, 1, 1, rfl, Nat.le_refl _, (.slice (some ⟨b1, o1, none⟩) n1 c1), 0, rfl, Joins.cell_of_block h0 0, Joins.cell_of_block h0 1, HS1.out.below HB4.out, rfl⟩, rfl⟩
        have hck := HCh.out (inT t) _ w4 HB4.out (in_isN HN.out) (in_wt (by have := HW.out; omega)) hin4
        rw [hin, errVal_no (by decide)] at hck
        clear hin4 h0 h1 hb4
        refine hck.mono ?_
        rintro e w5 ⟨rfl, hb5⟩
        have HB5 := Lib.hid (HB4.out.trans (hb5.mono HB4.out.size))
        clear hb5 hck
        have her := HEr.out 4 w5 HB5.out
        rw [errVal_no (by decide)] at her
        go_wp2_with fail
        refine her.mono ?_
        rintro e w6 ⟨rfl, hb6⟩
        have HB6 := Lib.hid (HB5.out.trans (hb6.mono HB5.out.size))
        clear hb6 her
        rw [show ((4 : Int) == 4) = true from rfl]
        have hown0 := World.ownsRow_made (e := 35) (size := 4) (base := w6.heap.size) w6 #[] 0 (Nat.le_refl _) (by decide) rfl
        have hba := HB6.out.alloc HB6.out.size (.cells #[] 35)
        have hne1 : ∀ (j : Nat) u, xs1[j]? = some u → (w6.alloc (.cells #[] 35)).cell? ((⟨b1, o1, none⟩ : Addr).add j) = some u := fun j u hj => by
          rw [add_at]; exact keepCells hba _ _ _ (hx1.2.1 j u hj)
        have HNE1 := Lib.hid hne1; have HOWN0 := Lib.hid hown0; have HBA := Lib.hid hba; have HX1 := Lib.hid hx1
        clear hne1 hown0 hba hx1
        go_wp2_with (first | (at_builtin; refine wpList_append_own _ rfl _ _ 22 rfl w6.heap.size 35 i0 (.agg #[.int .i64 0, .string ⟨#[]⟩, .int .i64 0, .slice none 0 0]) 4 56 Tryz.underlying22 hi hz0 hz1 hz2 rfl (by decide) _ 0 [] rfl HOWN0.out ⟨b1, o1, none⟩ n1 c1 xs1 rfl HX1.out.1 HNE1.out HX1.out.2.2.1 (by unfold maxLen; omega) (by omega) (by simp) ?_; intro va wa howna hgrowa hvna; have hown1 := Lib.hid (show wa.ownsRow w6.heap.size 35 4 va n1 xs1 by simpa using howna); have hB1 := Lib.hid (below_grown HBA.out hgrowa (fun k hk => Nat.le_trans HB6.out.size (HOWN0.out.lt k hk).1) (by have := HB6.out.size; simp; omega)); have hsa : w6.heap.size ≤ wa.heap.size := (by have := hgrowa.size; simp at this; omega); have hbk1 := Lib.hid (Go.heap_alloc_new wa (.cells (List.toArray [.int .i64 2, .string ⟨whoL.toArray⟩, .int .i64 0, .slice none 0 0]) 35)); clear howna hgrowa hvna HBA HOWN0 HNE1) | (at_builtin; refine wpList_append_lies _ rfl _ _ 22 rfl w6.heap.size 35 i0 (.agg #[.int .i64 0, .string ⟨#[]⟩, .int .i64 0, .slice none 0 0]) 4 56 Tryz.underlying22 hi hz0 hz1 hz2 rfl (by decide) _ n1 xs1 rfl (hown1.out.alloc _) ⟨wa.heap.size, 0, none⟩ 1 1 [.int .i64 2, .string ⟨whoL.toArray⟩, .int .i64 0, .slice none 0 0] rfl rfl (World.news_of_block hbk1.out) (fun x hx => by simp at hx; rcases hx with rfl | rfl | rfl | rfl <;> rfl) (by decide) (by unfold maxLen; omega) (by omega) (by simp; omega) _ rfl ?_; intro g cap wb hownb hgrowb hatb hltb; have hown2 := Lib.hid hownb; have hB2 := Lib.hid (below_grown (hB1.out.alloc hB1.out.size _) hgrowb (fun k hk => Nat.le_trans HB6.out.size (hown1.out.lt k hk).1) (by have := HB6.out.size; simp; omega)); have hsb : w6.heap.size ≤ wb.heap.size := (by have := hgrowb.size; simp at this; omega); clear hownb hgrowb hatb hltb hbk1; have hcap3 : (n1 + 1) ≤ cap := (own_cells hown2.out).1))
        have hown3 := hown2; have hB3 := hB2
        have hrdx := both_rdx HX1.out.2.2.2 (show RdX (fun b => b < w.heap.size) w .nil [] from rfl)
        have hlb : len (bothT t .nil) = (n1 + 1) := by rw [both_len]; rw [← HL1.out]; try simp only [len]; try omega
        have hsv3 : SV wb (.slice (some ⟨g, 0, none⟩) (n1 + 1) cap) (bothT t .nil) := SVP.sv (svp_own (P := fun _ => True) (base := w6.heap.size) (xs := xs1 ++ (whoC ++ [])) (by rw [hlb]; have h := hown3.out; rw [List.append_nil]; exact h) (RdX.mono (fun _ _ _ => trivial) _ _ (RdX.keep (W' := wb) (fun b _ hp => hB3.out.block b hp) _ _ hrdx)) (fun _ _ => trivial))
        have hnb : isN (bothT t .nil) = true := both_isN HN.out HN'.out
        have hwb : wt (bothT t .nil) ≤ 2100000 := both_wt HW.out
        have HNB := Lib.hid hnb; have HWB := Lib.hid hwb; have HSV3 := Lib.hid hsv3
        clear hrdx hlb hsv3 hnb hwb hown1 hown2 hown3
        have hck := HCh.out _ (.slice (some ⟨g, 0, none⟩) (n1 + 1) cap) wb hB3.out HNB.out HWB.out HSV3.out
        rw [hbo, errVal_no (by decide)] at hck
        refine hck.mono ?_
        rintro e w10 ⟨rfl, hb10⟩
        have HB10 := Lib.hid (hB3.out.trans (hb10.mono hB3.out.size))
        have HSV10 := Lib.hid (HSV3.out.below hb10)
        clear hb10 hck HSV3
        have her := HEr.out 4 w10 HB10.out
        rw [errVal_no (by decide)] at her
        go_wp2_with fail
        refine her.mono ?_
        rintro e w11 ⟨rfl, hb11⟩
        have HB11 := Lib.hid (HB10.out.trans (hb11.mono HB10.out.size))
        have HSV11 := Lib.hid (HSV10.out.below hb11)
        clear hb11 her HSV10
        rw [show ((4 : Int) == 4) = true from rfl]
        go_wp2_with fail
        go_ret
        exact ⟨rfl, HB11.out⟩
      · obtain ⟨hn1, xs1, hx1⟩ := HX1.out _ _ _ hr1
        have HL1 := Lib.hid hn1
        have hnb1 : n1 ≤ 1100000 := by omega
        clear hn1 hr1 HX1 hl1
        obtain ⟨hn2, xs2, hx2⟩ := HX2.out _ _ _ hr2
        have HL2 := Lib.hid hn2
        have hnb2 : n2 ≤ 1100000 := by omega
        clear hn2 hr2 HX2 hl2
        go_enter Tryz.func6, Tryz.ntmps6
        go_wp2_with fail
        refine HR.out.mono ?_
        rintro e w1 ⟨rfl, hb1⟩
        have HB1 := Lib.hid hb1; clear hb1
        go_wp2_with fail
        refine (HCa.out _ HB1.out).mono ?_
        rintro e w2 ⟨rfl, hb2⟩
        have HB2 := Lib.hid (HB1.out.trans (hb2.mono HB1.out.size)); clear hb2
        go_wp2_with fail
        refine (HCb.out _ HB2.out).mono ?_
        rintro e w3 ⟨rfl, hb3⟩
        have HB3 := Lib.hid (HB2.out.trans (hb3.mono HB2.out.size)); clear hb3
        go_wp2_with fail
        have hb4 := allocs_below w3 [.cells #[.string ⟨otherK.toArray⟩, (.slice (some ⟨b1, o1, none⟩) n1 c1)] 45, .cells #[.int .i64 5, .string ⟨whoL.toArray⟩, .int .i64 0, .slice (some ⟨w3.heap.size, 0, none⟩) 1 1] 35]
        have hat := allocs_at w3 [.cells #[.string ⟨otherK.toArray⟩, (.slice (some ⟨b1, o1, none⟩) n1 c1)] 45, .cells #[.int .i64 5, .string ⟨whoL.toArray⟩, .int .i64 0, .slice (some ⟨w3.heap.size, 0, none⟩) 1 1] 35]
        change Calls Tryz.prog 15 #[.slice (some ⟨w3.heap.size + 1, 0, none⟩) 1 1] (allocs w3 [.cells #[.string ⟨otherK.toArray⟩, (.slice (some ⟨b1, o1, none⟩) n1 c1)] 45, .cells #[.int .i64 5, .string ⟨whoL.toArray⟩, .int .i64 0, .slice (some ⟨w3.heap.size, 0, none⟩) 1 1] 35]) _
        have h0 := hat 0 (by simp); have h1 := hat 1 (by simp)
        clear hat
        generalize allocs w3 [.cells #[.string ⟨otherK.toArray⟩, (.slice (some ⟨b1, o1, none⟩) n1 c1)] 45, .cells #[.int .i64 5, .string ⟨whoL.toArray⟩, .int .i64 0, .slice (some ⟨w3.heap.size, 0, none⟩) 1 1] 35] = w4 at *
        have HB4 := Lib.hid (HB3.out.trans (hb4.mono HB3.out.size))
        have hin4 : SV w4 (.slice (some ⟨w3.heap.size + 1, 0, none⟩) 1 1) (inT t) :=
          .inr ⟨w3.heap.size + 1, 0, 1, 1, rfl, Nat.le_refl _, .slice (some ⟨w3.heap.size, 0, none⟩) 1 1, 0, rfl, Joins.cell_of_block h1 0, Joins.cell_of_block h1 1, Joins.cell_of_block h1 2, Joins.cell_of_block h1 3, .inr ⟨w3.heap.size, 0, 1, 1, rfl, Nat.le_refl _, (.slice (some ⟨b1, o1, none⟩) n1 c1), 0, rfl, Joins.cell_of_block h0 0, Joins.cell_of_block h0 1, HS1.out.below HB4.out, rfl⟩, rfl⟩
        have hck := HCh.out (inT t) _ w4 HB4.out (in_isN HN.out) (in_wt (by have := HW.out; omega)) hin4
        rw [hin, errVal_0] at hck
        clear hin4 h0 h1 hb4
        refine hck.mono ?_
        rintro e w5 ⟨rfl, hb5⟩
        have HB5 := Lib.hid (HB4.out.trans (hb5.mono HB4.out.size))
        clear hb5 hck
        have her := HEr.out 0 w5 HB5.out
        rw [errVal_0] at her
        go_wp2_with fail
        refine her.mono ?_
        rintro e w6 ⟨rfl, hb6⟩
        have HB6 := Lib.hid (HB5.out.trans (hb6.mono HB5.out.size))
        clear hb6 her
        rw [show ((0 : Int) == 4) = false from rfl]
        have hown0 := World.ownsRow_made (e := 35) (size := 4) (base := w6.heap.size) w6 #[] 0 (Nat.le_refl _) (by decide) rfl
        have hba := HB6.out.alloc HB6.out.size (.cells #[] 35)
        have hne1 : ∀ (j : Nat) u, xs1[j]? = some u → (w6.alloc (.cells #[] 35)).cell? ((⟨b1, o1, none⟩ : Addr).add j) = some u := fun j u hj => by
          rw [add_at]; exact keepCells hba _ _ _ (hx1.2.1 j u hj)
        have HNE1 := Lib.hid hne1; have HOWN0 := Lib.hid hown0; have HBA := Lib.hid hba; have HX1 := Lib.hid hx1
        clear hne1 hown0 hba hx1
        have HX2 := Lib.hid hx2
        clear hx2
        go_wp2_with (first | (at_builtin; refine wpList_append_own _ rfl _ _ 22 rfl w6.heap.size 35 i0 (.agg #[.int .i64 0, .string ⟨#[]⟩, .int .i64 0, .slice none 0 0]) 4 56 Tryz.underlying22 hi hz0 hz1 hz2 rfl (by decide) _ 0 [] rfl HOWN0.out ⟨b1, o1, none⟩ n1 c1 xs1 rfl HX1.out.1 HNE1.out HX1.out.2.2.1 (by unfold maxLen; omega) (by omega) (by simp) ?_; intro va wa howna hgrowa hvna; have hown1 := Lib.hid (show wa.ownsRow w6.heap.size 35 4 va n1 xs1 by simpa using howna); have hB1 := Lib.hid (below_grown HBA.out hgrowa (fun k hk => Nat.le_trans HB6.out.size (HOWN0.out.lt k hk).1) (by have := HB6.out.size; simp; omega)); have hsa : w6.heap.size ≤ wa.heap.size := (by have := hgrowa.size; simp at this; omega); have hbk1 := Lib.hid (Go.heap_alloc_new wa (.cells (List.toArray [.int .i64 2, .string ⟨whoL.toArray⟩, .int .i64 0, .slice none 0 0]) 35)); clear howna hgrowa hvna HBA HOWN0 HNE1) | (at_builtin; refine wpList_append_lies _ rfl _ _ 22 rfl w6.heap.size 35 i0 (.agg #[.int .i64 0, .string ⟨#[]⟩, .int .i64 0, .slice none 0 0]) 4 56 Tryz.underlying22 hi hz0 hz1 hz2 rfl (by decide) _ n1 xs1 rfl (hown1.out.alloc _) ⟨wa.heap.size, 0, none⟩ 1 1 [.int .i64 2, .string ⟨whoL.toArray⟩, .int .i64 0, .slice none 0 0] rfl rfl (World.news_of_block hbk1.out) (fun x hx => by simp at hx; rcases hx with rfl | rfl | rfl | rfl <;> rfl) (by decide) (by unfold maxLen; omega) (by omega) (by simp; omega) _ rfl ?_; intro g cap wb hownb hgrowb hatb hltb; have hown2 := Lib.hid hownb; have hB2 := Lib.hid (below_grown (hB1.out.alloc hB1.out.size _) hgrowb (fun k hk => Nat.le_trans HB6.out.size (hown1.out.lt k hk).1) (by have := HB6.out.size; simp; omega)); have hsb : w6.heap.size ≤ wb.heap.size := (by have := hgrowb.size; simp at this; omega); clear hownb hgrowb hatb hltb hbk1) | (at_builtin; refine wpList_append_own _ rfl _ _ 22 rfl w6.heap.size 35 i0 (.agg #[.int .i64 0, .string ⟨#[]⟩, .int .i64 0, .slice none 0 0]) 4 56 Tryz.underlying22 hi hz0 hz1 hz2 rfl (by decide) _ _ _ rfl hown2.out ⟨b2, o2, none⟩ n2 c2 xs2 rfl HX2.out.1 (fun j u hj => by rw [add_at]; exact keepCells hB2.out _ _ _ (HX2.out.2.1 j u hj)) HX2.out.2.2.1 (by unfold maxLen; omega) (by omega) hsb ?_; intro v3 wc hownc hgrowc hvnc; have hown3 := Lib.hid hownc; have hB3 := Lib.hid (below_grown hB2.out hgrowc (fun k hk => Nat.le_trans HB6.out.size (hown2.out.lt k hk).1) (by have := HB6.out.size; omega)); clear hownc hgrowc hvnc))
        have hrdx := both_rdx HX1.out.2.2.2 HX2.out.2.2.2
        have hlb : len (bothT t u) = (n1 + 1 + n2) := by rw [both_len]; rw [← HL1.out]; try rw [← HL2.out]; try omega
        have hsv3 : SV wc v3 (bothT t u) := SVP.sv (svp_own (P := fun _ => True) (base := w6.heap.size) (xs := xs1 ++ (whoC ++ xs2)) (by rw [hlb]; have h := hown3.out; rw [List.append_assoc] at h; exact h) (RdX.mono (fun _ _ _ => trivial) _ _ (RdX.keep (W' := wc) (fun b _ hp => hB3.out.block b hp) _ _ hrdx)) (fun _ _ => trivial))
        have hnb : isN (bothT t u) = true := both_isN HN.out HN'.out
        have hwb : wt (bothT t u) ≤ 2100000 := both_wt HW.out
        have HNB := Lib.hid hnb; have HWB := Lib.hid hwb; have HSV3 := Lib.hid hsv3
        clear hrdx hlb hsv3 hnb hwb hown1 hown2 hown3
        have hck := HCh.out _ v3 wc hB3.out HNB.out HWB.out HSV3.out
        rw [hbo, errVal_0] at hck
        refine hck.mono ?_
        rintro e w10 ⟨rfl, hb10⟩
        have HB10 := Lib.hid (hB3.out.trans (hb10.mono hB3.out.size))
        have HSV10 := Lib.hid (HSV3.out.below hb10)
        clear hb10 hck HSV3
        have her := HEr.out 0 w10 HB10.out
        rw [errVal_0] at her
        go_wp2_with fail
        refine her.mono ?_
        rintro e w11 ⟨rfl, hb11⟩
        have HB11 := Lib.hid (HB10.out.trans (hb11.mono HB10.out.size))
        have HSV11 := Lib.hid (HSV10.out.below hb11)
        clear hb11 her HSV10
        rw [show ((0 : Int) == 4) = false from rfl]
        go_wp2_with fail
        refine (HTa.out _ HB11.out).mono ?_
        rintro e w12 ⟨rfl, hb12⟩
        have HB12 := Lib.hid (HB11.out.trans (hb12.mono HB11.out.size))
        have HSV12 := Lib.hid (HSV11.out.below hb12)
        clear hb12 HSV11
        go_wp2_with fail
        refine (HTb.out _ HB12.out).mono ?_
        rintro e w13 ⟨rfl, hb13⟩
        have HB13 := Lib.hid (HB12.out.trans (hb13.mono HB12.out.size))
        have HSV13 := Lib.hid (HSV12.out.below hb13)
        clear hb13 HSV12
        have htx := HTx.out _ v3 w13 HB13.out HNB.out HWB.out HSV13.out
        rw [hbo, if_pos rfl, errVal_0, both_txt, show txt t false ++ [123, 119, 104, 111, 125] ++ txt u false = A0 ++ [123, 119, 104, 111, 125] ++ B0 by rw [HA.out, HB.out]] at htx
        go_wp2_with fail
        refine htx.mono ?_
        rintro e w14 ⟨rfl, hb14⟩
        have HB14 := Lib.hid (HB13.out.trans (hb14.mono HB13.out.size))
        clear hb14 htx HSV13
        go_wp2_with fail
        go_ret
        exact ⟨by first | rfl | simp, HB14.out⟩
      · obtain ⟨hn1, xs1, hx1⟩ := HX1.out _ _ _ hr1
        have HL1 := Lib.hid hn1
        have hnb1 : n1 ≤ 1100000 := by omega
        clear hn1 hr1 HX1 hl1
        obtain ⟨hn2, xs2, hx2⟩ := HX2.out _ _ _ hr2
        have HL2 := Lib.hid hn2
        have hnb2 : n2 ≤ 1100000 := by omega
        clear hn2 hr2 HX2 hl2
        go_enter Tryz.func6, Tryz.ntmps6
        go_wp2_with fail
        refine HR.out.mono ?_
        rintro e w1 ⟨rfl, hb1⟩
        have HB1 := Lib.hid hb1; clear hb1
        go_wp2_with fail
        refine (HCa.out _ HB1.out).mono ?_
        rintro e w2 ⟨rfl, hb2⟩
        have HB2 := Lib.hid (HB1.out.trans (hb2.mono HB1.out.size)); clear hb2
        go_wp2_with fail
        refine (HCb.out _ HB2.out).mono ?_
        rintro e w3 ⟨rfl, hb3⟩
        have HB3 := Lib.hid (HB2.out.trans (hb3.mono HB2.out.size)); clear hb3
        go_wp2_with fail
        have hb4 := allocs_below w3 [.cells #[.string ⟨otherK.toArray⟩, (.slice (some ⟨b1, o1, none⟩) n1 c1)] 45, .cells #[.int .i64 5, .string ⟨whoL.toArray⟩, .int .i64 0, .slice (some ⟨w3.heap.size, 0, none⟩) 1 1] 35]
        have hat := allocs_at w3 [.cells #[.string ⟨otherK.toArray⟩, (.slice (some ⟨b1, o1, none⟩) n1 c1)] 45, .cells #[.int .i64 5, .string ⟨whoL.toArray⟩, .int .i64 0, .slice (some ⟨w3.heap.size, 0, none⟩) 1 1] 35]
        change Calls Tryz.prog 15 #[.slice (some ⟨w3.heap.size + 1, 0, none⟩) 1 1] (allocs w3 [.cells #[.string ⟨otherK.toArray⟩, (.slice (some ⟨b1, o1, none⟩) n1 c1)] 45, .cells #[.int .i64 5, .string ⟨whoL.toArray⟩, .int .i64 0, .slice (some ⟨w3.heap.size, 0, none⟩) 1 1] 35]) _
        have h0 := hat 0 (by simp); have h1 := hat 1 (by simp)
        clear hat
        generalize allocs w3 [.cells #[.string ⟨otherK.toArray⟩, (.slice (some ⟨b1, o1, none⟩) n1 c1)] 45, .cells #[.int .i64 5, .string ⟨whoL.toArray⟩, .int .i64 0, .slice (some ⟨w3.heap.size, 0, none⟩) 1 1] 35] = w4 at *
        have HB4 := Lib.hid (HB3.out.trans (hb4.mono HB3.out.size))
        have hin4 : SV w4 (.slice (some ⟨w3.heap.size + 1, 0, none⟩) 1 1) (inT t) :=
          .inr ⟨w3.heap.size + 1, 0, 1, 1, rfl, Nat.le_refl _, .slice (some ⟨w3.heap.size, 0, none⟩) 1 1, 0, rfl, Joins.cell_of_block h1 0, Joins.cell_of_block h1 1, Joins.cell_of_block h1 2, Joins.cell_of_block h1 3, .inr ⟨w3.heap.size, 0, 1, 1, rfl, Nat.le_refl _, (.slice (some ⟨b1, o1, none⟩) n1 c1), 0, rfl, Joins.cell_of_block h0 0, Joins.cell_of_block h0 1, HS1.out.below HB4.out, rfl⟩, rfl⟩
        have hck := HCh.out (inT t) _ w4 HB4.out (in_isN HN.out) (in_wt (by have := HW.out; omega)) hin4
        rw [hin, errVal_0] at hck
        clear hin4 h0 h1 hb4
        refine hck.mono ?_
        rintro e w5 ⟨rfl, hb5⟩
        have HB5 := Lib.hid (HB4.out.trans (hb5.mono HB4.out.size))
        clear hb5 hck
        have her := HEr.out 0 w5 HB5.out
        rw [errVal_0] at her
        go_wp2_with fail
        refine her.mono ?_
        rintro e w6 ⟨rfl, hb6⟩
        have HB6 := Lib.hid (HB5.out.trans (hb6.mono HB5.out.size))
        clear hb6 her
        rw [show ((0 : Int) == 4) = false from rfl]
        have hown0 := World.ownsRow_made (e := 35) (size := 4) (base := w6.heap.size) w6 #[] 0 (Nat.le_refl _) (by decide) rfl
        have hba := HB6.out.alloc HB6.out.size (.cells #[] 35)
        have hne1 : ∀ (j : Nat) u, xs1[j]? = some u → (w6.alloc (.cells #[] 35)).cell? ((⟨b1, o1, none⟩ : Addr).add j) = some u := fun j u hj => by
          rw [add_at]; exact keepCells hba _ _ _ (hx1.2.1 j u hj)
        have HNE1 := Lib.hid hne1; have HOWN0 := Lib.hid hown0; have HBA := Lib.hid hba; have HX1 := Lib.hid hx1
        clear hne1 hown0 hba hx1
        have HX2 := Lib.hid hx2
        clear hx2
        go_wp2_with (first | (at_builtin; refine wpList_append_own _ rfl _ _ 22 rfl w6.heap.size 35 i0 (.agg #[.int .i64 0, .string ⟨#[]⟩, .int .i64 0, .slice none 0 0]) 4 56 Tryz.underlying22 hi hz0 hz1 hz2 rfl (by decide) _ 0 [] rfl HOWN0.out ⟨b1, o1, none⟩ n1 c1 xs1 rfl HX1.out.1 HNE1.out HX1.out.2.2.1 (by unfold maxLen; omega) (by omega) (by simp) ?_; intro va wa howna hgrowa hvna; have hown1 := Lib.hid (show wa.ownsRow w6.heap.size 35 4 va n1 xs1 by simpa using howna); have hB1 := Lib.hid (below_grown HBA.out hgrowa (fun k hk => Nat.le_trans HB6.out.size (HOWN0.out.lt k hk).1) (by have := HB6.out.size; simp; omega)); have hsa : w6.heap.size ≤ wa.heap.size := (by have := hgrowa.size; simp at this; omega); have hbk1 := Lib.hid (Go.heap_alloc_new wa (.cells (List.toArray [.int .i64 2, .string ⟨whoL.toArray⟩, .int .i64 0, .slice none 0 0]) 35)); clear howna hgrowa hvna HBA HOWN0 HNE1) | (at_builtin; refine wpList_append_lies _ rfl _ _ 22 rfl w6.heap.size 35 i0 (.agg #[.int .i64 0, .string ⟨#[]⟩, .int .i64 0, .slice none 0 0]) 4 56 Tryz.underlying22 hi hz0 hz1 hz2 rfl (by decide) _ n1 xs1 rfl (hown1.out.alloc _) ⟨wa.heap.size, 0, none⟩ 1 1 [.int .i64 2, .string ⟨whoL.toArray⟩, .int .i64 0, .slice none 0 0] rfl rfl (World.news_of_block hbk1.out) (fun x hx => by simp at hx; rcases hx with rfl | rfl | rfl | rfl <;> rfl) (by decide) (by unfold maxLen; omega) (by omega) (by simp; omega) _ rfl ?_; intro g cap wb hownb hgrowb hatb hltb; have hown2 := Lib.hid hownb; have hB2 := Lib.hid (below_grown (hB1.out.alloc hB1.out.size _) hgrowb (fun k hk => Nat.le_trans HB6.out.size (hown1.out.lt k hk).1) (by have := HB6.out.size; simp; omega)); have hsb : w6.heap.size ≤ wb.heap.size := (by have := hgrowb.size; simp at this; omega); clear hownb hgrowb hatb hltb hbk1) | (at_builtin; refine wpList_append_own _ rfl _ _ 22 rfl w6.heap.size 35 i0 (.agg #[.int .i64 0, .string ⟨#[]⟩, .int .i64 0, .slice none 0 0]) 4 56 Tryz.underlying22 hi hz0 hz1 hz2 rfl (by decide) _ _ _ rfl hown2.out ⟨b2, o2, none⟩ n2 c2 xs2 rfl HX2.out.1 (fun j u hj => by rw [add_at]; exact keepCells hB2.out _ _ _ (HX2.out.2.1 j u hj)) HX2.out.2.2.1 (by unfold maxLen; omega) (by omega) hsb ?_; intro v3 wc hownc hgrowc hvnc; have hown3 := Lib.hid hownc; have hB3 := Lib.hid (below_grown hB2.out hgrowc (fun k hk => Nat.le_trans HB6.out.size (hown2.out.lt k hk).1) (by have := HB6.out.size; omega)); clear hownc hgrowc hvnc))
        have hrdx := both_rdx HX1.out.2.2.2 HX2.out.2.2.2
        have hlb : len (bothT t u) = (n1 + 1 + n2) := by rw [both_len]; rw [← HL1.out]; try rw [← HL2.out]; try omega
        have hsv3 : SV wc v3 (bothT t u) := SVP.sv (svp_own (P := fun _ => True) (base := w6.heap.size) (xs := xs1 ++ (whoC ++ xs2)) (by rw [hlb]; have h := hown3.out; rw [List.append_assoc] at h; exact h) (RdX.mono (fun _ _ _ => trivial) _ _ (RdX.keep (W' := wc) (fun b _ hp => hB3.out.block b hp) _ _ hrdx)) (fun _ _ => trivial))
        have hnb : isN (bothT t u) = true := both_isN HN.out HN'.out
        have hwb : wt (bothT t u) ≤ 2100000 := both_wt HW.out
        have HNB := Lib.hid hnb; have HWB := Lib.hid hwb; have HSV3 := Lib.hid hsv3
        clear hrdx hlb hsv3 hnb hwb hown1 hown2 hown3
        have hck := HCh.out _ v3 wc hB3.out HNB.out HWB.out HSV3.out
        rw [hbo, errVal_no (by decide)] at hck
        refine hck.mono ?_
        rintro e w10 ⟨rfl, hb10⟩
        have HB10 := Lib.hid (hB3.out.trans (hb10.mono hB3.out.size))
        have HSV10 := Lib.hid (HSV3.out.below hb10)
        clear hb10 hck HSV3
        have her := HEr.out 4 w10 HB10.out
        rw [errVal_no (by decide)] at her
        go_wp2_with fail
        refine her.mono ?_
        rintro e w11 ⟨rfl, hb11⟩
        have HB11 := Lib.hid (HB10.out.trans (hb11.mono HB10.out.size))
        have HSV11 := Lib.hid (HSV10.out.below hb11)
        clear hb11 her HSV10
        rw [show ((4 : Int) == 4) = true from rfl]
        go_wp2_with fail
        go_ret
        exact ⟨rfl, HB11.out⟩
      · obtain ⟨hn1, xs1, hx1⟩ := HX1.out _ _ _ hr1
        have HL1 := Lib.hid hn1
        have hnb1 : n1 ≤ 1100000 := by omega
        clear hn1 hr1 HX1 hl1
        obtain ⟨hn2, xs2, hx2⟩ := HX2.out _ _ _ hr2
        have HL2 := Lib.hid hn2
        have hnb2 : n2 ≤ 1100000 := by omega
        clear hn2 hr2 HX2 hl2
        go_enter Tryz.func6, Tryz.ntmps6
        go_wp2_with fail
        refine HR.out.mono ?_
        rintro e w1 ⟨rfl, hb1⟩
        have HB1 := Lib.hid hb1; clear hb1
        go_wp2_with fail
        refine (HCa.out _ HB1.out).mono ?_
        rintro e w2 ⟨rfl, hb2⟩
        have HB2 := Lib.hid (HB1.out.trans (hb2.mono HB1.out.size)); clear hb2
        go_wp2_with fail
        refine (HCb.out _ HB2.out).mono ?_
        rintro e w3 ⟨rfl, hb3⟩
        have HB3 := Lib.hid (HB2.out.trans (hb3.mono HB2.out.size)); clear hb3
        go_wp2_with fail
        have hb4 := allocs_below w3 [.cells #[.string ⟨otherK.toArray⟩, (.slice (some ⟨b1, o1, none⟩) n1 c1)] 45, .cells #[.int .i64 5, .string ⟨whoL.toArray⟩, .int .i64 0, .slice (some ⟨w3.heap.size, 0, none⟩) 1 1] 35]
        have hat := allocs_at w3 [.cells #[.string ⟨otherK.toArray⟩, (.slice (some ⟨b1, o1, none⟩) n1 c1)] 45, .cells #[.int .i64 5, .string ⟨whoL.toArray⟩, .int .i64 0, .slice (some ⟨w3.heap.size, 0, none⟩) 1 1] 35]
        change Calls Tryz.prog 15 #[.slice (some ⟨w3.heap.size + 1, 0, none⟩) 1 1] (allocs w3 [.cells #[.string ⟨otherK.toArray⟩, (.slice (some ⟨b1, o1, none⟩) n1 c1)] 45, .cells #[.int .i64 5, .string ⟨whoL.toArray⟩, .int .i64 0, .slice (some ⟨w3.heap.size, 0, none⟩) 1 1] 35]) _
        have h0 := hat 0 (by simp); have h1 := hat 1 (by simp)
        clear hat
        generalize allocs w3 [.cells #[.string ⟨otherK.toArray⟩, (.slice (some ⟨b1, o1, none⟩) n1 c1)] 45, .cells #[.int .i64 5, .string ⟨whoL.toArray⟩, .int .i64 0, .slice (some ⟨w3.heap.size, 0, none⟩) 1 1] 35] = w4 at *
        have HB4 := Lib.hid (HB3.out.trans (hb4.mono HB3.out.size))
        have hin4 : SV w4 (.slice (some ⟨w3.heap.size + 1, 0, none⟩) 1 1) (inT t) :=
          .inr ⟨w3.heap.size + 1, 0, 1, 1, rfl, Nat.le_refl _, .slice (some ⟨w3.heap.size, 0, none⟩) 1 1, 0, rfl, Joins.cell_of_block h1 0, Joins.cell_of_block h1 1, Joins.cell_of_block h1 2, Joins.cell_of_block h1 3, .inr ⟨w3.heap.size, 0, 1, 1, rfl, Nat.le_refl _, (.slice (some ⟨b1, o1, none⟩) n1 c1), 0, rfl, Joins.cell_of_block h0 0, Joins.cell_of_block h0 1, HS1.out.below HB4.out, rfl⟩, rfl⟩
        have hck := HCh.out (inT t) _ w4 HB4.out (in_isN HN.out) (in_wt (by have := HW.out; omega)) hin4
        rw [hin, errVal_no (by decide)] at hck
        clear hin4 h0 h1 hb4
        refine hck.mono ?_
        rintro e w5 ⟨rfl, hb5⟩
        have HB5 := Lib.hid (HB4.out.trans (hb5.mono HB4.out.size))
        clear hb5 hck
        have her := HEr.out 4 w5 HB5.out
        rw [errVal_no (by decide)] at her
        go_wp2_with fail
        refine her.mono ?_
        rintro e w6 ⟨rfl, hb6⟩
        have HB6 := Lib.hid (HB5.out.trans (hb6.mono HB5.out.size))
        clear hb6 her
        rw [show ((4 : Int) == 4) = true from rfl]
        have hown0 := World.ownsRow_made (e := 35) (size := 4) (base := w6.heap.size) w6 #[] 0 (Nat.le_refl _) (by decide) rfl
        have hba := HB6.out.alloc HB6.out.size (.cells #[] 35)
        have hne1 : ∀ (j : Nat) u, xs1[j]? = some u → (w6.alloc (.cells #[] 35)).cell? ((⟨b1, o1, none⟩ : Addr).add j) = some u := fun j u hj => by
          rw [add_at]; exact keepCells hba _ _ _ (hx1.2.1 j u hj)
        have HNE1 := Lib.hid hne1; have HOWN0 := Lib.hid hown0; have HBA := Lib.hid hba; have HX1 := Lib.hid hx1
        clear hne1 hown0 hba hx1
        have HX2 := Lib.hid hx2
        clear hx2
        go_wp2_with (first | (at_builtin; refine wpList_append_own _ rfl _ _ 22 rfl w6.heap.size 35 i0 (.agg #[.int .i64 0, .string ⟨#[]⟩, .int .i64 0, .slice none 0 0]) 4 56 Tryz.underlying22 hi hz0 hz1 hz2 rfl (by decide) _ 0 [] rfl HOWN0.out ⟨b1, o1, none⟩ n1 c1 xs1 rfl HX1.out.1 HNE1.out HX1.out.2.2.1 (by unfold maxLen; omega) (by omega) (by simp) ?_; intro va wa howna hgrowa hvna; have hown1 := Lib.hid (show wa.ownsRow w6.heap.size 35 4 va n1 xs1 by simpa using howna); have hB1 := Lib.hid (below_grown HBA.out hgrowa (fun k hk => Nat.le_trans HB6.out.size (HOWN0.out.lt k hk).1) (by have := HB6.out.size; simp; omega)); have hsa : w6.heap.size ≤ wa.heap.size := (by have := hgrowa.size; simp at this; omega); have hbk1 := Lib.hid (Go.heap_alloc_new wa (.cells (List.toArray [.int .i64 2, .string ⟨whoL.toArray⟩, .int .i64 0, .slice none 0 0]) 35)); clear howna hgrowa hvna HBA HOWN0 HNE1) | (at_builtin; refine wpList_append_lies _ rfl _ _ 22 rfl w6.heap.size 35 i0 (.agg #[.int .i64 0, .string ⟨#[]⟩, .int .i64 0, .slice none 0 0]) 4 56 Tryz.underlying22 hi hz0 hz1 hz2 rfl (by decide) _ n1 xs1 rfl (hown1.out.alloc _) ⟨wa.heap.size, 0, none⟩ 1 1 [.int .i64 2, .string ⟨whoL.toArray⟩, .int .i64 0, .slice none 0 0] rfl rfl (World.news_of_block hbk1.out) (fun x hx => by simp at hx; rcases hx with rfl | rfl | rfl | rfl <;> rfl) (by decide) (by unfold maxLen; omega) (by omega) (by simp; omega) _ rfl ?_; intro g cap wb hownb hgrowb hatb hltb; have hown2 := Lib.hid hownb; have hB2 := Lib.hid (below_grown (hB1.out.alloc hB1.out.size _) hgrowb (fun k hk => Nat.le_trans HB6.out.size (hown1.out.lt k hk).1) (by have := HB6.out.size; simp; omega)); have hsb : w6.heap.size ≤ wb.heap.size := (by have := hgrowb.size; simp at this; omega); clear hownb hgrowb hatb hltb hbk1) | (at_builtin; refine wpList_append_own _ rfl _ _ 22 rfl w6.heap.size 35 i0 (.agg #[.int .i64 0, .string ⟨#[]⟩, .int .i64 0, .slice none 0 0]) 4 56 Tryz.underlying22 hi hz0 hz1 hz2 rfl (by decide) _ _ _ rfl hown2.out ⟨b2, o2, none⟩ n2 c2 xs2 rfl HX2.out.1 (fun j u hj => by rw [add_at]; exact keepCells hB2.out _ _ _ (HX2.out.2.1 j u hj)) HX2.out.2.2.1 (by unfold maxLen; omega) (by omega) hsb ?_; intro v3 wc hownc hgrowc hvnc; have hown3 := Lib.hid hownc; have hB3 := Lib.hid (below_grown hB2.out hgrowc (fun k hk => Nat.le_trans HB6.out.size (hown2.out.lt k hk).1) (by have := HB6.out.size; omega)); clear hownc hgrowc hvnc))
        have hrdx := both_rdx HX1.out.2.2.2 HX2.out.2.2.2
        have hlb : len (bothT t u) = (n1 + 1 + n2) := by rw [both_len]; rw [← HL1.out]; try rw [← HL2.out]; try omega
        have hsv3 : SV wc v3 (bothT t u) := SVP.sv (svp_own (P := fun _ => True) (base := w6.heap.size) (xs := xs1 ++ (whoC ++ xs2)) (by rw [hlb]; have h := hown3.out; rw [List.append_assoc] at h; exact h) (RdX.mono (fun _ _ _ => trivial) _ _ (RdX.keep (W' := wc) (fun b _ hp => hB3.out.block b hp) _ _ hrdx)) (fun _ _ => trivial))
        have hnb : isN (bothT t u) = true := both_isN HN.out HN'.out
        have hwb : wt (bothT t u) ≤ 2100000 := both_wt HW.out
        have HNB := Lib.hid hnb; have HWB := Lib.hid hwb; have HSV3 := Lib.hid hsv3
        clear hrdx hlb hsv3 hnb hwb hown1 hown2 hown3
        have hck := HCh.out _ v3 wc hB3.out HNB.out HWB.out HSV3.out
        rw [hbo, errVal_0] at hck
        refine hck.mono ?_
        rintro e w10 ⟨rfl, hb10⟩
        have HB10 := Lib.hid (hB3.out.trans (hb10.mono hB3.out.size))
        have HSV10 := Lib.hid (HSV3.out.below hb10)
        clear hb10 hck HSV3
        have her := HEr.out 0 w10 HB10.out
        rw [errVal_0] at her
        go_wp2_with fail
        refine her.mono ?_
        rintro e w11 ⟨rfl, hb11⟩
        have HB11 := Lib.hid (HB10.out.trans (hb11.mono HB10.out.size))
        have HSV11 := Lib.hid (HSV10.out.below hb11)
        clear hb11 her HSV10
        rw [show ((0 : Int) == 4) = false from rfl]
        go_wp2_with fail
        refine (HTa.out _ HB11.out).mono ?_
        rintro e w12 ⟨rfl, hb12⟩
        have HB12 := Lib.hid (HB11.out.trans (hb12.mono HB11.out.size))
        have HSV12 := Lib.hid (HSV11.out.below hb12)
        clear hb12 HSV11
        go_wp2_with fail
        refine (HTb.out _ HB12.out).mono ?_
        rintro e w13 ⟨rfl, hb13⟩
        have HB13 := Lib.hid (HB12.out.trans (hb13.mono HB12.out.size))
        have HSV13 := Lib.hid (HSV12.out.below hb13)
        clear hb13 HSV12
        have htx := HTx.out _ v3 w13 HB13.out HNB.out HWB.out HSV13.out
        rw [hbo, if_pos rfl, errVal_0, both_txt, show txt t false ++ [123, 119, 104, 111, 125] ++ txt u false = A0 ++ [123, 119, 104, 111, 125] ++ B0 by rw [HA.out, HB.out]] at htx
        go_wp2_with fail
        refine htx.mono ?_
        rintro e w14 ⟨rfl, hb14⟩
        have HB14 := Lib.hid (HB13.out.trans (hb14.mono HB13.out.size))
        clear hb14 htx HSV13
        go_wp2_with fail
        go_ret
        exact ⟨by first | rfl | simp, HB14.out⟩
      · obtain ⟨hn1, xs1, hx1⟩ := HX1.out _ _ _ hr1
        have HL1 := Lib.hid hn1
        have hnb1 : n1 ≤ 1100000 := by omega
        clear hn1 hr1 HX1 hl1
        obtain ⟨hn2, xs2, hx2⟩ := HX2.out _ _ _ hr2
        have HL2 := Lib.hid hn2
        have hnb2 : n2 ≤ 1100000 := by omega
        clear hn2 hr2 HX2 hl2
        go_enter Tryz.func6, Tryz.ntmps6
        go_wp2_with fail
        refine HR.out.mono ?_
        rintro e w1 ⟨rfl, hb1⟩
        have HB1 := Lib.hid hb1; clear hb1
        go_wp2_with fail
        refine (HCa.out _ HB1.out).mono ?_
        rintro e w2 ⟨rfl, hb2⟩
        have HB2 := Lib.hid (HB1.out.trans (hb2.mono HB1.out.size)); clear hb2
        go_wp2_with fail
        refine (HCb.out _ HB2.out).mono ?_
        rintro e w3 ⟨rfl, hb3⟩
        have HB3 := Lib.hid (HB2.out.trans (hb3.mono HB2.out.size)); clear hb3
        go_wp2_with fail
        have hb4 := allocs_below w3 [.cells #[.string ⟨otherK.toArray⟩, (.slice (some ⟨b1, o1, none⟩) n1 c1)] 45, .cells #[.int .i64 5, .string ⟨whoL.toArray⟩, .int .i64 0, .slice (some ⟨w3.heap.size, 0, none⟩) 1 1] 35]
        have hat := allocs_at w3 [.cells #[.string ⟨otherK.toArray⟩, (.slice (some ⟨b1, o1, none⟩) n1 c1)] 45, .cells #[.int .i64 5, .string ⟨whoL.toArray⟩, .int .i64 0, .slice (some ⟨w3.heap.size, 0, none⟩) 1 1] 35]
        change Calls Tryz.prog 15 #[.slice (some ⟨w3.heap.size + 1, 0, none⟩) 1 1] (allocs w3 [.cells #[.string ⟨otherK.toArray⟩, (.slice (some ⟨b1, o1, none⟩) n1 c1)] 45, .cells #[.int .i64 5, .string ⟨whoL.toArray⟩, .int .i64 0, .slice (some ⟨w3.heap.size, 0, none⟩) 1 1] 35]) _
        have h0 := hat 0 (by simp); have h1 := hat 1 (by simp)
        clear hat
        generalize allocs w3 [.cells #[.string ⟨otherK.toArray⟩, (.slice (some ⟨b1, o1, none⟩) n1 c1)] 45, .cells #[.int .i64 5, .string ⟨whoL.toArray⟩, .int .i64 0, .slice (some ⟨w3.heap.size, 0, none⟩) 1 1] 35] = w4 at *
        have HB4 := Lib.hid (HB3.out.trans (hb4.mono HB3.out.size))
        have hin4 : SV w4 (.slice (some ⟨w3.heap.size + 1, 0, none⟩) 1 1) (inT t) :=
          .inr ⟨w3.heap.size + 1, 0, 1, 1, rfl, Nat.le_refl _, .slice (some ⟨w3.heap.size, 0, none⟩) 1 1, 0, rfl, Joins.cell_of_block h1 0, Joins.cell_of_block h1 1, Joins.cell_of_block h1 2, Joins.cell_of_block h1 3, .inr ⟨w3.heap.size, 0, 1, 1, rfl, Nat.le_refl _, (.slice (some ⟨b1, o1, none⟩) n1 c1), 0, rfl, Joins.cell_of_block h0 0, Joins.cell_of_block h0 1, HS1.out.below HB4.out, rfl⟩, rfl⟩
        have hck := HCh.out (inT t) _ w4 HB4.out (in_isN HN.out) (in_wt (by have := HW.out; omega)) hin4
        rw [hin, errVal_no (by decide)] at hck
        clear hin4 h0 h1 hb4
        refine hck.mono ?_
        rintro e w5 ⟨rfl, hb5⟩
        have HB5 := Lib.hid (HB4.out.trans (hb5.mono HB4.out.size))
        clear hb5 hck
        have her := HEr.out 4 w5 HB5.out
        rw [errVal_no (by decide)] at her
        go_wp2_with fail
        refine her.mono ?_
        rintro e w6 ⟨rfl, hb6⟩
        have HB6 := Lib.hid (HB5.out.trans (hb6.mono HB5.out.size))
        clear hb6 her
        rw [show ((4 : Int) == 4) = true from rfl]
        have hown0 := World.ownsRow_made (e := 35) (size := 4) (base := w6.heap.size) w6 #[] 0 (Nat.le_refl _) (by decide) rfl
        have hba := HB6.out.alloc HB6.out.size (.cells #[] 35)
        have hne1 : ∀ (j : Nat) u, xs1[j]? = some u → (w6.alloc (.cells #[] 35)).cell? ((⟨b1, o1, none⟩ : Addr).add j) = some u := fun j u hj => by
          rw [add_at]; exact keepCells hba _ _ _ (hx1.2.1 j u hj)
        have HNE1 := Lib.hid hne1; have HOWN0 := Lib.hid hown0; have HBA := Lib.hid hba; have HX1 := Lib.hid hx1
        clear hne1 hown0 hba hx1
        have HX2 := Lib.hid hx2
        clear hx2
        go_wp2_with (first | (at_builtin; refine wpList_append_own _ rfl _ _ 22 rfl w6.heap.size 35 i0 (.agg #[.int .i64 0, .string ⟨#[]⟩, .int .i64 0, .slice none 0 0]) 4 56 Tryz.underlying22 hi hz0 hz1 hz2 rfl (by decide) _ 0 [] rfl HOWN0.out ⟨b1, o1, none⟩ n1 c1 xs1 rfl HX1.out.1 HNE1.out HX1.out.2.2.1 (by unfold maxLen; omega) (by omega) (by simp) ?_; intro va wa howna hgrowa hvna; have hown1 := Lib.hid (show wa.ownsRow w6.heap.size 35 4 va n1 xs1 by simpa using howna); have hB1 := Lib.hid (below_grown HBA.out hgrowa (fun k hk => Nat.le_trans HB6.out.size (HOWN0.out.lt k hk).1) (by have := HB6.out.size; simp; omega)); have hsa : w6.heap.size ≤ wa.heap.size := (by have := hgrowa.size; simp at this; omega); have hbk1 := Lib.hid (Go.heap_alloc_new wa (.cells (List.toArray [.int .i64 2, .string ⟨whoL.toArray⟩, .int .i64 0, .slice none 0 0]) 35)); clear howna hgrowa hvna HBA HOWN0 HNE1) | (at_builtin; refine wpList_append_lies _ rfl _ _ 22 rfl w6.heap.size 35 i0 (.agg #[.int .i64 0, .string ⟨#[]⟩, .int .i64 0, .slice none 0 0]) 4 56 Tryz.underlying22 hi hz0 hz1 hz2 rfl (by decide) _ n1 xs1 rfl (hown1.out.alloc _) ⟨wa.heap.size, 0, none⟩ 1 1 [.int .i64 2, .string ⟨whoL.toArray⟩, .int .i64 0, .slice none 0 0] rfl rfl (World.news_of_block hbk1.out) (fun x hx => by simp at hx; rcases hx with rfl | rfl | rfl | rfl <;> rfl) (by decide) (by unfold maxLen; omega) (by omega) (by simp; omega) _ rfl ?_; intro g cap wb hownb hgrowb hatb hltb; have hown2 := Lib.hid hownb; have hB2 := Lib.hid (below_grown (hB1.out.alloc hB1.out.size _) hgrowb (fun k hk => Nat.le_trans HB6.out.size (hown1.out.lt k hk).1) (by have := HB6.out.size; simp; omega)); have hsb : w6.heap.size ≤ wb.heap.size := (by have := hgrowb.size; simp at this; omega); clear hownb hgrowb hatb hltb hbk1) | (at_builtin; refine wpList_append_own _ rfl _ _ 22 rfl w6.heap.size 35 i0 (.agg #[.int .i64 0, .string ⟨#[]⟩, .int .i64 0, .slice none 0 0]) 4 56 Tryz.underlying22 hi hz0 hz1 hz2 rfl (by decide) _ _ _ rfl hown2.out ⟨b2, o2, none⟩ n2 c2 xs2 rfl HX2.out.1 (fun j u hj => by rw [add_at]; exact keepCells hB2.out _ _ _ (HX2.out.2.1 j u hj)) HX2.out.2.2.1 (by unfold maxLen; omega) (by omega) hsb ?_; intro v3 wc hownc hgrowc hvnc; have hown3 := Lib.hid hownc; have hB3 := Lib.hid (below_grown hB2.out hgrowc (fun k hk => Nat.le_trans HB6.out.size (hown2.out.lt k hk).1) (by have := HB6.out.size; omega)); clear hownc hgrowc hvnc))
        have hrdx := both_rdx HX1.out.2.2.2 HX2.out.2.2.2
        have hlb : len (bothT t u) = (n1 + 1 + n2) := by rw [both_len]; rw [← HL1.out]; try rw [← HL2.out]; try omega
        have hsv3 : SV wc v3 (bothT t u) := SVP.sv (svp_own (P := fun _ => True) (base := w6.heap.size) (xs := xs1 ++ (whoC ++ xs2)) (by rw [hlb]; have h := hown3.out; rw [List.append_assoc] at h; exact h) (RdX.mono (fun _ _ _ => trivial) _ _ (RdX.keep (W' := wc) (fun b _ hp => hB3.out.block b hp) _ _ hrdx)) (fun _ _ => trivial))
        have hnb : isN (bothT t u) = true := both_isN HN.out HN'.out
        have hwb : wt (bothT t u) ≤ 2100000 := both_wt HW.out
        have HNB := Lib.hid hnb; have HWB := Lib.hid hwb; have HSV3 := Lib.hid hsv3
        clear hrdx hlb hsv3 hnb hwb hown1 hown2 hown3
        have hck := HCh.out _ v3 wc hB3.out HNB.out HWB.out HSV3.out
        rw [hbo, errVal_no (by decide)] at hck
        refine hck.mono ?_
        rintro e w10 ⟨rfl, hb10⟩
        have HB10 := Lib.hid (hB3.out.trans (hb10.mono hB3.out.size))
        have HSV10 := Lib.hid (HSV3.out.below hb10)
        clear hb10 hck HSV3
        have her := HEr.out 4 w10 HB10.out
        rw [errVal_no (by decide)] at her
        go_wp2_with fail
        refine her.mono ?_
        rintro e w11 ⟨rfl, hb11⟩
        have HB11 := Lib.hid (HB10.out.trans (hb11.mono HB10.out.size))
        have HSV11 := Lib.hid (HSV10.out.below hb11)
        clear hb11 her HSV10
        rw [show ((4 : Int) == 4) = true from rfl]
        go_wp2_with fail
        go_ret
        exact ⟨rfl, HB11.out⟩
    · have HC2' : Hid (∀ W, Below w.heap.size w W → Calls Tryz.prog 15 #[v2] W fun e w' => e = .returned (.iface 37 (.int .i64 (fault u))) ∧ Below W.heap.size W w') := Lib.hid (fun W hB => by have h := HC2.out W hB; rw [errVal_no hf'] at h; exact h)
      have HCa : Hid (∀ W, Below w.heap.size w W → Calls Tryz.prog 15 #[v1] W fun e w' => e = .returned .nilIface ∧ Below W.heap.size W w') := Lib.hid (fun W hB => by have h := HC1.out W hB; rw [hf, errVal_0] at h; exact h)
      obtain ⟨a1, m1, k1, rfl⟩ := s1.form
      obtain ⟨a2, m2, k2, rfl⟩ := s2.form
      generalize fault u = q at *
      clear s1 s2 s01 s02 hm hM hg hf hf' hn hn' hw HC1 HC2
      go_enter Tryz.func6, Tryz.ntmps6
      go_wp2_with fail
      refine HR.out.mono ?_
      rintro e w1 ⟨rfl, hb1⟩
      have HB1 := Lib.hid hb1; clear hb1
      go_wp2_with fail
      refine (HCa.out _ HB1.out).mono ?_
      rintro e w2 ⟨rfl, hb2⟩
      have HB2 := Lib.hid (HB1.out.trans (hb2.mono HB1.out.size)); clear hb2
      go_wp2_with fail
      refine (HC2'.out _ HB2.out).mono ?_
      rintro e w3 ⟨rfl, hb3⟩
      have HB3 := Lib.hid (HB2.out.trans (hb3.mono HB2.out.size)); clear hb3
      go_wp2_with fail
      go_ret
      exact ⟨rfl, HB3.out⟩
  · have HC1' : Hid (∀ W, Below w.heap.size w W → Calls Tryz.prog 15 #[v1] W fun e w' => e = .returned (.iface 37 (.int .i64 (fault t))) ∧ Below W.heap.size W w') := Lib.hid (fun W hB => by have h := HC1.out W hB; rw [errVal_no hf] at h; exact h)
    obtain ⟨a1, m1, k1, rfl⟩ := s1.form
    obtain ⟨a2, m2, k2, rfl⟩ := s2.form
    generalize fault t = q at *
    clear s1 s2 s01 s02 hm hM hg hf hn hn' hw HC1 HC2
    go_enter Tryz.func6, Tryz.ntmps6
    go_wp2_with fail
    refine HR.out.mono ?_
    rintro e w1 ⟨rfl, hb1⟩
    have HB1 := Lib.hid hb1; clear hb1
    go_wp2_with fail
    refine (HC1'.out _ HB1.out).mono ?_
    rintro e w2 ⟨rfl, hb2⟩
    have HB2 := Lib.hid (HB1.out.trans (hb2.mono HB1.out.size)); clear hb2
    go_wp2_with fail
    go_ret
    exact ⟨rfl, HB2.out⟩
end Go.Proofs.YtgkphpjnfigjiaaGreatDoor
