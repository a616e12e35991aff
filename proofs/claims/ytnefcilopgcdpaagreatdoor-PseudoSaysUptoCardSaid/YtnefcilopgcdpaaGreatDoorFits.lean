/-
  names.Fits: do the arguments fit what a message needs?
-/
import Derived.Test.YtnefcilopgcdpaaGreatDoorNof
import Derived.Test.YtnefcilopgcdpaaGreatDoorPlu
import Derived.Test.YtnefcilopgcdpaaGreatDoorDecB
namespace Go.Proofs.YtnefcilopgcdpaaGreatDoor
open Go.RowKit Ms

def az : Ar := ⟨[], false, ⟨0, 0⟩, []⟩
/-- a slice that reads as arguments -/
structure ArCells (W : World) (g k : Nat) (a : Ar) : Prop where
  c0 : W.cell? ⟨g, k, none⟩ = some (.string ⟨a.nm.toArray⟩)
  c1 : W.cell? ⟨g, k + 1, none⟩ = some (.bool a.num)
  c2 : W.cell? ⟨g, k + 2, none⟩ = some (.int .i64 a.d.c)
  c3 : W.cell? ⟨g, k + 3, none⟩ = some (.int .i64 a.d.s)
  c4 : W.cell? ⟨g, k + 4, none⟩ = some (.string ⟨a.tx.toArray⟩)
def AR (v : Value) (al : List Ar) (W : World) : Prop := ∃ a c, v = .slice a al.length c ∧ (al.length = 0 ∨ ∃ g o, a = some ⟨g, o, none⟩ ∧ ∀ i, i < al.length → ArCells W g (o + i * 5) (al.getD i az))
theorem AR.below {v : Value} {l : List Ar} {W W' : World} (h : AR v l W) (hb : Below W.heap.size W W') : AR v l W' := by
  obtain ⟨a, c, rfl, h⟩ := h
  refine ⟨a, c, rfl, ?_⟩
  rcases h with h | ⟨g, o, rfl, hc⟩
  · exact .inl h
  · have k := keepCells hb
    exact .inr ⟨g, o, rfl, fun i hi => ⟨k _ _ _ (hc i hi).c0, k _ _ _ (hc i hi).c1, k _ _ _ (hc i hi).c2, k _ _ _ (hc i hi).c3, k _ _ _ (hc i hi).c4⟩⟩
theorem drop_ar (al : List Ar) (i : Nat) (h : i < al.length) : al.drop i = al.getD i az :: al.drop (i + 1) := by
  rw [List.drop_eq_getElem_cons h, List.getD_eq_getElem?_getD, List.getElem?_eq_getElem h]; rfl
theorem drop_nd (al : List Need) (i : Nat) (h : i < al.length) : al.drop i = al.getD i nz :: al.drop (i + 1) := by
  rw [List.drop_eq_getElem_cons h, List.getD_eq_getElem?_getD, List.getElem?_eq_getElem h]; rfl
theorem boolTy : MapTy Tryz.prog 74 9 4 .string := ⟨by kernel_rfl, by kernel_rfl⟩
theorem zeroBool (w : World) : (zeroValue 4).run Tryz.prog w = .ok (.bool false) w := by kernel_rfl
theorem any_find (k : List UInt8) {α : Type} : ∀ l : List (List UInt8 × α), l.any (fun p => p.1 == k) = (l.find? (fun p => p.1 == k)).isSome
  | [] => rfl
  | p :: l => by
    simp only [List.any_cons, List.find?_cons]
    cases p.1 == k with
    | true => rfl
    | false => simp [any_find k l]
theorem assocV_app {α : Type} (g : α → Value) (a b : List (List UInt8 × α)) : assocV g (a ++ b) = assocV g a ++ assocV g b := by simp [assocV]
theorem assoc_new {α : Type} (g : α → Value) (k : List UInt8) (l : List (List UInt8 × α)) (h : l.any (fun p => p.1 == k) = false) : ∀ p ∈ assocV g l, p.1 ≠ .string ⟨k.toArray⟩ := by
  intro p hp
  obtain ⟨q, hq, rfl⟩ := List.mem_map.1 hp
  apply str_ne
  intro e
  have := List.any_eq_false.1 h q hq
  simp [e] at this
set_option maxRecDepth 100000 in
set_option maxHeartbeats 4000000 in
theorem fits_any (t : T) (v va : Value) (al : List Ar) (w : World) (hn : isN t = true) (hw : wt t ≤ 2100000) (hm : MW w) (hs : SV w v t) (ha : AR va al w) (hal : al.length ≤ 1000000) (han : ∀ a ∈ al, a.nm.length ≤ 2100000) :
    Calls Tryz.prog 14 #[v, va] w fun e w' => e = .returned (errVal (fitsE t al)) ∧ Below w.heap.size w w' := by
  obtain ⟨a1, n1, c1, rfl⟩ := hs.form
  have HO := Lib.hid (of_any t (.slice a1 n1 c1) w hn hw hm hs)
  obtain ⟨a2, c2, rfl, hap⟩ := ha
  by_cases hf : ofFault t = 0
  · have hl0 : (needsT t []).length ≤ 60 := by
      have h1 := needsT_len t []
      have h2 : fault t = 0 := by
        unfold ofFault at hf
        by_cases h : fault t = 0
        · exact h
        · rw [if_pos h] at hf; exact absurd hf h
      have := fault0_cnt h2
      simp only [List.length_nil] at h1
      omega
    have HFE := Lib.hid (show fitsE t al = if (argsGo al []).1 ≠ 0 then (argsGo al []).1 else needsGo (argsGo al []).2 (needsT t []) by unfold fitsE; rw [if_neg (by simp [hf])])
    rw [hf, errVal_0] at HO
    obtain ⟨F, hF⟩ : ∃ F, F = fitsE t al := ⟨_, rfl⟩
    rw [← hF] at HFE ⊢
    generalize needsT t [] = l at *
    clear hF hf hs hn hw hm
    have HAP := Lib.hid hap; have HAN := Lib.hid han
    clear hap han
    go_enter Tryz.func14, Tryz.ntmps14
    go_wp2_with fail
    refine HO.out.mono ?_
    rintro e w1 ⟨⟨v1, rfl, hnr⟩, hb1⟩
    obtain ⟨a3, c3, rfl, hnp⟩ := hnr trivial
    have HNP := Lib.hid hnp; have HB1 := Lib.hid hb1
    have hmm := @run_makeMap Tryz.prog
    have HM0 := Lib.hid (MapIs.made w1)
    have HK0 := Lib.hid ((Below.refl w1.heap.size w1).alloc (Nat.le_refl _) (.map #[] 0))
    clear hnr hnp hb1 HO
    go_wp2_with fail
    obtain ⟨R, hR⟩ : ∃ R, R = argsGo al [] := ⟨_, rfl⟩
    rw [← hR] at HFE
    have HR := Lib.hid (show argsGo (al.drop 0) [] = R from hR.symm)
    clear hR hmm
    obtain ⟨mb, hmb⟩ : ∃ mb, mb = w1.heap.size := ⟨_, rfl⟩
    have HMB := Lib.hid hmb
    rw [← hmb] at HM0 ⊢
    clear hmb
    go_loopw [28] (fun i wr => ∃ (i' : Nat) (seen : List (List UInt8 × Bool)), i' ≤ al.length ∧ i = .int .i64 i' ∧ Hid (argsGo (al.drop i') seen = R) ∧ Hid (MapIs wr mb (assocV .bool seen)) ∧ Hid (Below w1.heap.size w1 wr)) (fun i _ => al.length - (intOf i).toNat)
    case atStart => exact ⟨0, [], Nat.zero_le _, rfl, HR, HM0, HK0⟩
    case round =>
      clear HR HM0 HK0
      obtain ⟨i, seen, hi, rfl, HR, HM, HK⟩ := hrel
      by_cases hlt : i < al.length
      · obtain ⟨g, o, rfl, hc⟩ : ∃ g o, a2 = some ⟨g, o, none⟩ ∧ ∀ i, i < al.length → ArCells w g (o + i * 5) (al.getD i az) := by
          rcases HAP.out with h0 | h
          · omega
          · exact h
        have hci := hc i hlt
        obtain ⟨x, hx⟩ : ∃ x, x = al.getD i az := ⟨_, rfl⟩
        have hnm : x.nm.length ≤ 2100000 := by
          rw [hx, List.getD_eq_getElem?_getD, List.getElem?_eq_getElem hlt]
          exact HAN.out _ (List.getElem_mem hlt)
        have hdr := drop_ar al i hlt
        rw [← hx] at hci hdr
        have HX := Lib.hid (show argsGo (x :: al.drop (i + 1)) seen = R by rw [← hdr]; exact HR.out)
        have kk := keepCells (HB1.out.trans (HK.out.mono HB1.out.size))
        have q0 := kk _ _ _ hci.c0; have q1 := kk _ _ _ hci.c1; have q2 := kk _ _ _ hci.c2; have q3 := kk _ _ _ hci.c3; have q4 := kk _ _ _ hci.c4
        obtain ⟨nm, num, ⟨dc, ds⟩, tx⟩ := x
        dsimp only at q0 q1 q2 q3 q4 hnm
        clear hc hci hx hdr kk HR
        obtain ⟨wa, hwa⟩ : ∃ wa, wa = wr.alloc (Obj.cells #[.string ⟨nm.toArray⟩, .bool num, .int .i64 dc, .int .i64 ds, .string ⟨tx.toArray⟩] 53) := ⟨_, rfl⟩
        have HWA := Lib.hid hwa
        have hba := (Below.refl wr.heap.size wr).alloc (Nat.le_refl _) (Obj.cells #[.string ⟨nm.toArray⟩, .bool num, .int .i64 dc, .int .i64 ds, .string ⟨tx.toArray⟩] 53)
        have hka := Go.heap_alloc_new wr (Obj.cells #[.string ⟨nm.toArray⟩, .bool num, .int .i64 dc, .int .i64 ds, .string ⟨tx.toArray⟩] 53)
        rw [← hwa] at hba hka
        have hsz : wr.heap.size < wa.heap.size := (Array.getElem?_eq_some_iff.1 hka).1
        have HMa := Lib.hid (HM.out.below hba)
        have HKa := Lib.hid (HK.out.trans (hba.mono HK.out.size))
        have HBA := Lib.hid hba
        have hml := HM.out.lt
        obtain ⟨xb, hxb⟩ : ∃ xb, xb = wr.heap.size := ⟨_, rfl⟩
        have HXB := Lib.hid hxb
        rw [← hxb] at hka hsz hml
        clear hwa hba hxb HM HK
        go_upto_region 8 with fail
        rw [← HXB.out, ← HWA.out]
        have y0 : wa.cell? ⟨xb, 0, none⟩ = some (.string ⟨nm.toArray⟩) := block_cell hka rfl
        have y1 : wa.cell? ⟨xb, 1, none⟩ = some (.bool num) := block_cell hka rfl
        have y2 : wa.cell? ⟨xb, 2, none⟩ = some (.int .i64 dc) := block_cell hka rfl
        have y3 : wa.cell? ⟨xb, 3, none⟩ = some (.int .i64 ds) := block_cell hka rfl
        have HNM := Lib.hid (name_any ⟨nm.toArray⟩ wa (by simpa [ByteArray.size] using hnm))
        clear HWA HXB HBA q0 q1 q2 q3 q4
        go_wp2_with fail
        refine HNM.out.mono ?_
        rintro e w3 ⟨rfl, hb3⟩
        have hml3 : mb < xb := hml
        have HM3 := Lib.hid (HMa.out.below hb3)
        have HK3 := Lib.hid (HKa.out.trans (hb3.mono HKa.out.size))
        have hk3 := (hb3.block _ hsz).trans hka
        have y0 : w3.cell? ⟨xb, 0, none⟩ = some (.string ⟨nm.toArray⟩) := block_cell hk3 rfl
        have y1 : w3.cell? ⟨xb, 1, none⟩ = some (.bool num) := block_cell hk3 rfl
        have y2 : w3.cell? ⟨xb, 2, none⟩ = some (.int .i64 dc) := block_cell hk3 rfl
        have y3 : w3.cell? ⟨xb, 3, none⟩ = some (.int .i64 ds) := block_cell hk3 rfl
        have hs3 : xb < w3.heap.size := (Array.getElem?_eq_some_iff.1 hk3).1
        have HK3b := Lib.hid hk3
        clear hb3 hk3 hka HMa HKa HNM hsz
        by_cases hnb : nameB nm = false
        · have hrr : R.1 = 3 := by rw [← HX.out, argsGo, if_pos hnb]
          have hff : F = 3 := by rw [HFE.out, if_pos (by rw [hrr]; decide), hrr]
          have HFF := Lib.hid hff
          have HB3 := Lib.hid (HB1.out.trans (HK3.out.mono HB1.out.size))
          clear hrr hff HFE HX HM3 HK3
          have hnb2 : nameB (⟨nm.toArray⟩ : ByteArray).data.toList = false := by simpa using hnb
          clear hnb
          go_wp2_with fail
          go_ret
          exact ⟨by rw [HFF.out]; rfl, HB3.out⟩
        · have hnb1 : nameB nm = true := by simpa using hnb
          have hnb2 : nameB (⟨nm.toArray⟩ : ByteArray).data.toList = true := by simpa using hnb
          by_cases hbad : (num && decBad ⟨dc, ds⟩) = true
          · have hrr : R.1 = 1 := by rw [← HX.out, argsGo, if_neg hnb, if_pos hbad]
            have hff : F = 1 := by rw [HFE.out, if_pos (by rw [hrr]; decide), hrr]
            simp only [Bool.and_eq_true] at hbad
            obtain ⟨rfl, hbad⟩ := hbad
            have HFF := Lib.hid hff
            have HDC := Lib.hid (dcheck_bad ⟨dc, ds⟩ w3 hbad)
            have HB3 := Lib.hid (HB1.out.trans (HK3.out.mono HB1.out.size))
            clear hrr hff HFE HX HM3 HK3 hbad hnb
            unfold dcV at HDC
            go_wp2_with fail
            refine HDC.out.mono ?_
            rintro e w4 ⟨rfl, hb4⟩
            have HB4 := Lib.hid (HB3.out.trans (hb4.mono HB3.out.size))
            clear hb4
            go_wp2_with fail
            go_ret
            exact ⟨by rw [HFF.out]; rfl, HB4.out⟩
          · have hsp : num = false ∨ (num = true ∧ decBad ⟨dc, ds⟩ = false) := by
              cases num with
              | false => exact .inl rfl
              | true => exact .inr ⟨rfl, by simpa using hbad⟩
            have HX2 := Lib.hid (show (if seen.any (fun p => p.1 == nm) = true then ((5 : Int), seen) else argsGo (al.drop (i + 1)) (seen ++ [(nm, num)])) = R by rw [← HX.out, argsGo, if_neg hnb, if_neg hbad])
            clear HX hnb hbad
            rcases hsp with rfl | ⟨rfl, hd⟩
            case' inl =>
              go_upto_region 14 with fail
              obtain ⟨w5, hw5⟩ : ∃ w5, w5 = w3 := ⟨_, rfl⟩
              have HM5 := HM3; have HK5 := HK3; have HB5 := HK3b; have hs5 := hs3
              rw [← hw5] at HM5 HK5 HB5 hs5
              simp only [← hw5]
              clear hw5
            case' inr =>
              have HDC := Lib.hid (dcheck_ok ⟨dc, ds⟩ w3 hd)
              unfold dcV at HDC
              clear hd
              go_wp2_with fail
              refine HDC.out.mono ?_
              rintro e w5 ⟨rfl, hb5⟩
              have HM5 := Lib.hid (HM3.out.below hb5)
              have HK5 := Lib.hid (HK3.out.trans (hb5.mono HK3.out.size))
              have HB5 := Lib.hid ((hb5.block _ hs3).trans HK3b.out)
              have hs5 : xb < w5.heap.size := Nat.lt_of_lt_of_le hs3 hb5.size
              clear hb5
              go_upto_region 14 with fail
            all_goals
              clear y0 y1 y2 y3 HM3 HK3 HK3b hs3
              have y0 := block_cell (i := 0) HB5.out rfl
              have y1 := block_cell (i := 1) HB5.out rfl
              have hlk := looks_assoc Value.bool nm seen
              have hBw := Lib.hid (HB1.out.trans (HK5.out.mono HB1.out.size))
              cases hfd : seen.find? (fun p => p.1 == nm) with
              | some p =>
                rw [hfd] at hlk
                simp only [Option.map_some] at hlk
                have hany : seen.any (fun p => p.1 == nm) = true := by rw [any_find, hfd]; rfl
                have hrr : R.1 = 5 := by rw [← HX2.out, if_pos hany]
                have hff : F = 5 := by rw [HFE.out, if_pos (by rw [hrr]; decide), hrr]
                have HFF := Lib.hid hff
                clear hrr hff HFE HX2 hany hfd
                go_wp2_with (at_lookup; refine wpList_look_map boolTy zeroBool _ rfl _ _ true rfl mb (assocV .bool seen) _ rfl rfl HM5.out (assoc_keys .bool seen) trivial _ hlk ?_; dsimp only [lookV])
                go_ret
                exact ⟨by rw [HFF.out]; rfl, hBw.out⟩
              | none =>
                rw [hfd] at hlk
                simp only [Option.map_none] at hlk
                have hany : seen.any (fun p => p.1 == nm) = false := by rw [any_find, hfd]; rfl
                have hnew := assoc_new Value.bool nm seen hany
                have hx3 := HX2.out
                rw [if_neg (by rw [hany]; decide)] at hx3
                have HX3 := Lib.hid hx3
                have HNW := Lib.hid hnew
                clear HX2 hany hfd hnew hx3
                go_wp2_with (first | (at_lookup; refine wpList_look_map boolTy zeroBool _ rfl _ _ true rfl mb (assocV .bool seen) _ rfl rfl HM5.out (assoc_keys .bool seen) trivial _ hlk ?_; dsimp only [lookV]) | (refine wpList_update_map boolTy _ rfl _ _ _ rfl mb (assocV .bool seen) (.string ⟨nm.toArray⟩) (.bool _) rfl rfl rfl HM5.out (assoc_keys .bool seen) trivial HNW.out ?_; intro w6 hM6 hg6 hz6))
                go_roundw
                case rel => exact ⟨i + 1, _, by omega, by go_num, HX3, Lib.hid (by rw [assocV_app]; exact hM6), Lib.hid (below_grown HK5.out hg6 (fun k e => by cases e; rw [HMB.out]; exact Nat.le_refl _) HK5.out.size)⟩
                case measure => simp [intOf]; omega
      · obtain rfl : i = al.length := by omega
        have hr0 := HR.out
        rw [List.drop_length, argsGo] at hr0
        have hff : F = needsGo seen l := by rw [HFE.out, ← hr0]; rfl
        have HG := Lib.hid (show needsGo seen (l.drop 0) = F from hff.symm)
        clear hr0 hff HR HFE
        go_wp2_with fail
        obtain ⟨wo, hwo⟩ : ∃ wo : World, wo = wr := ⟨_, rfl⟩
        rw [← hwo] at HM HK ⊢
        clear hwo
        go_loopw [62] (fun j wr => ∃ (j' : Nat), j' ≤ l.length ∧ j = .int .i64 j' ∧ Hid (needsGo seen (l.drop j') = F) ∧ Hid (MapIs wr mb (assocV .bool seen)) ∧ Hid (Below w1.heap.size w1 wr)) (fun j _ => l.length - (intOf j).toNat)
        case atStart => exact ⟨0, Nat.zero_le _, rfl, HG, HM, HK⟩
        case round =>
          clear HG HM HK
          obtain ⟨j, hj, rfl, HG, HM, HK⟩ := hrel
          by_cases hlt : j < l.length
          · obtain ⟨g, rfl, hc⟩ : ∃ g, a3 = some ⟨g, 0, none⟩ ∧ ∀ i, i < l.length → w1.cell? ⟨g, i * 3, none⟩ = some (.string ⟨(l.getD i nz).nm.toArray⟩) ∧ w1.cell? ⟨g, i * 3 + 1, none⟩ = some (.bool (l.getD i nz).num) ∧ w1.cell? ⟨g, i * 3 + 2, none⟩ = some (.bool (l.getD i nz).text) := by
              rcases HNP.out with h0 | h
              · omega
              · exact h
            obtain ⟨q0, q1, q2⟩ := hc j hlt
            have hdr := drop_nd l j hlt
            obtain ⟨x, hx⟩ : ∃ x, x = l.getD j nz := ⟨_, rfl⟩
            rw [← hx] at q0 q1 q2 hdr
            have HX := Lib.hid (show needsGo seen (x :: l.drop (j + 1)) = F by rw [← hdr]; exact HG.out)
            have kk := keepCells HK.out
            have q0 := kk _ _ _ q0; have q1 := kk _ _ _ q1; have q2 := kk _ _ _ q2
            obtain ⟨nm, num, tx⟩ := x
            dsimp only at q0 q1 q2
            clear hc hx hdr kk HG
            obtain ⟨wa, hwa⟩ : ∃ wa, wa = wr.alloc (Obj.cells #[.string ⟨nm.toArray⟩, .bool num, .bool tx] 79) := ⟨_, rfl⟩
            have HWA := Lib.hid hwa
            have hba := (Below.refl wr.heap.size wr).alloc (Nat.le_refl _) (Obj.cells #[.string ⟨nm.toArray⟩, .bool num, .bool tx] 79)
            have hka := Go.heap_alloc_new wr (Obj.cells #[.string ⟨nm.toArray⟩, .bool num, .bool tx] 79)
            rw [← hwa] at hba hka
            have HMa := Lib.hid (HM.out.below hba)
            have HKa := Lib.hid (HK.out.trans (hba.mono HK.out.size))
            obtain ⟨xb, hxb⟩ : ∃ xb, xb = wr.heap.size := ⟨_, rfl⟩
            have HXB := Lib.hid hxb
            rw [← hxb] at hka
            clear hwa hba hxb HM HK
            go_upto_region 22 with fail
            rw [← HXB.out, ← HWA.out]
            have y0 := block_cell (i := 0) hka rfl
            have y1 := block_cell (i := 1) hka rfl
            have y2 := block_cell (i := 2) hka rfl
            have hlk := looks_assoc Value.bool nm seen
            have hBw := Lib.hid (HB1.out.trans (HKa.out.mono HB1.out.size))
            clear hka q0 q1 q2 HWA HXB
            cases hfd : seen.find? (fun p => p.1 == nm) with
            | none =>
              rw [hfd] at hlk
              simp only [Option.map_none] at hlk
              have HFF := Lib.hid (show F = 2 by rw [← HX.out, needsGo, hfd])
              clear hfd HX
              go_wp2_with (at_lookup; refine wpList_look_map boolTy zeroBool _ rfl _ _ true rfl mb (assocV .bool seen) _ rfl rfl HMa.out (assoc_keys .bool seen) trivial _ hlk ?_; dsimp only [lookV])
              go_ret
              exact ⟨by rw [HFF.out]; rfl, hBw.out⟩
            | some p =>
              rw [hfd] at hlk
              simp only [Option.map_some] at hlk
              have HFF := Lib.hid (show (if ((num && !p.2) || (tx && p.2)) = true then 7 else needsGo seen (l.drop (j + 1))) = F by rw [← HX.out, needsGo, hfd])
              clear hfd HX
              obtain ⟨pk, pb⟩ := p
              dsimp only at hlk HFF
              by_cases hbad : ((num && !pb) || (tx && pb)) = true
              · have HFE := Lib.hid (show F = 7 by rw [← HFF.out, if_pos hbad])
                clear HFF
                go_wp2_with (at_lookup; refine wpList_look_map boolTy zeroBool _ rfl _ _ true rfl mb (assocV .bool seen) _ rfl rfl HMa.out (assoc_keys .bool seen) trivial _ hlk ?_; dsimp only [lookV])
                all_goals first | (exfalso; revert hbad; simp [*]; done) | (go_ret; exact ⟨by rw [HFE.out]; rfl, hBw.out⟩)
              · have HFE := Lib.hid (show needsGo seen (l.drop (j + 1)) = F by rw [← HFF.out, if_neg hbad])
                have hbf : ((num && !pb) || (tx && pb)) = false := by simpa using hbad
                clear HFF hbad
                go_wp2_with (at_lookup; refine wpList_look_map boolTy zeroBool _ rfl _ _ true rfl mb (assocV .bool seen) _ rfl rfl HMa.out (assoc_keys .bool seen) trivial _ hlk ?_; dsimp only [lookV])
                all_goals first | (exfalso; revert hbf; simp [*]; done) | (go_roundw; (case rel => exact ⟨j + 1, by omega, by go_num, HFE, HMa, HKa⟩); (case measure => simp [intOf]; omega))
          · obtain rfl : j = l.length := by omega
            have HFF := Lib.hid (show F = 0 by rw [← HG.out, List.drop_length, needsGo])
            have hBw := Lib.hid (HB1.out.trans (HK.out.mono HB1.out.size))
            clear HG
            go_wp2_with fail
            go_ret
            exact ⟨by rw [HFF.out, errVal_0]; rfl, hBw.out⟩
  · have HF := Lib.hid hf
    have HE := Lib.hid (show fitsE t al = ofFault t by unfold fitsE; rw [if_pos hf])
    rw [errVal_no hf] at HO
    have HQ := Lib.hid (errVal_no hf)
    generalize ofFault t = q at *
    clear hf hn hw hm hs hap hal han
    go_enter Tryz.func14, Tryz.ntmps14
    go_wp2_with fail
    refine HO.out.mono ?_
    rintro e w1 ⟨⟨v1, rfl, _⟩, hb1⟩
    have HB1 := Lib.hid hb1; clear hb1
    go_wp2_with fail
    go_ret
    exact ⟨by rw [HE.out, HQ.out]; rfl, HB1.out⟩
end Go.Proofs.YtnefcilopgcdpaaGreatDoor
