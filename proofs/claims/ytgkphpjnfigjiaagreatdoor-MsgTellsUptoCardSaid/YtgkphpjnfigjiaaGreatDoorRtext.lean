/-
  The reference's MsgText: the text of a right message, as the program's.
-/
import Derived.Test.YtgkphpjnfigjiaaGreatDoorSize
import Derived.Test.YtgkphpjnfigjiaaGreatDoorTxt
import Derived.Test.YtgkphpjnfigjiaaGreatDoorMdig
import Derived.Test.YtgkphpjnfigjiaaGreatDoorRefs
import Derived.Lib.QuietBelow
namespace Go.Proofs.YtgkphpjnfigjiaaGreatDoor
open Go.RowKit Ms Go.Sort

def RtextIH (N : Nat) : Prop := ∀ (t : T) (v : Value) (mark pw : Bool) (w : World), sz t < N → isN t = true → wt t ≤ 2000000 → SV w v t → flt t mark pw 0 [] = 0 → Calls Tryz.prog 16 #[v, .bool mark] w fun e w' => e = .returned (.string ⟨(txt t mark).toArray⟩) ∧ Below w.heap.size w w'

set_option maxHeartbeats 8000000 in
set_option maxRecDepth 100000 in
theorem rtext_no (N : Nat) (IH : RtextIH N) (t : T) (v : Value) (pw0 : Bool) (w : World) (hz : sz t ≤ N) (hn : isN t = true) (hw : wt t ≤ 2000000) (hs : SV w v t) (hf : flt t false pw0 0 [] = 0) :
    Calls Tryz.prog 16 #[v, .bool false] w fun e w' => e = .returned (.string ⟨(txt t false).toArray⟩) ∧ Below w.heap.size w w' := by
  obtain ⟨a, n, c, rfl, hnl, hfr⟩ := nodesFrom_start hs
  have hlw := len_wt t
  have hn2 : n ≤ 2000000 := by omega
  have HTot := Lib.hid (show (txt t false).length ≤ 12000000 by have := txt_len t false pw0 0 [] hf; omega)
  have HIH := Lib.hid IH; have HN := Lib.hid hn; have HF := Lib.hid hfr; have HZ := Lib.hid hz; have HW := Lib.hid hw; have HFl := Lib.hid hf
  clear IH hn hfr hz hw hs hlw hnl hf
  go_enter Tryz.func16, Tryz.ntmps16
  go_wp2_with fail
  go_loopw [5, 6] (fun s i wr => ∃ (i' : Nat) (t' : T) (acc : List UInt8) (pw : Bool), s = .string ⟨acc.toArray⟩ ∧ i = .int .i64 i' ∧ i' ≤ n ∧ acc.length ≤ 12000000 ∧ Hid (NodesFrom w a n i' t' ∧ isN t' = true ∧ sz t' ≤ sz t ∧ wt t' ≤ wt t ∧ acc ++ txt t' false = txt t false ∧ flt t' false pw 0 [] = 0) ∧ Hid (Below w.heap.size w wr)) (fun _ i _ => n - (RowKit.intOf i).toNat)
  case atStart => exact ⟨0, t, [], pw0, rfl, rfl, by omega, by simp, ⟨HF.out, HN.out, Nat.le_refl _, Nat.le_refl _, rfl, HFl.out⟩, Below.refl _ _⟩
  case round =>
    obtain ⟨i, t', acc, pw, rfl, rfl, hin, hal, HT, HB⟩ := hrel
    by_cases hlt : i < n
    · obtain ⟨hf1, hn1, hs1, hw1, hac0, hfl⟩ := HT.out
      obtain ⟨k, x, f, cs, nx, b, o, v, rfl, rfl, q0, q1, q2, q3, hsv, hnext⟩ := nodesFrom_next hf1 hlt hn1
      have kc := keepCells HB.out
      have k0 := kc _ _ _ q0; have k1 := kc _ _ _ q1; have k2 := kc _ _ _ q2; have k3 := kc _ _ _ q3
      obtain ⟨hncs, hnnx⟩ := isN_node hn1
      obtain ⟨a3, n3, c3, rfl, hl3, hfr3⟩ := casesFrom_start hsv
      have hxl : x.length ≤ 2000000 := by have h1 := HW.out; simp only [wt] at hw1; omega
      have hxs : (⟨x.toArray⟩ : ByteArray).size ≤ 2000000 := by rw [sizeOf_mk]; exact hxl
      have hcsz : sz cs < N := by have := HZ.out; simp only [sz] at hs1; omega
      have hcsw : wt cs ≤ 2000000 := by have := HW.out; simp only [wt] at hw1; omega
      have hn3 : n3 ≤ 2000000 := by have := len_wt cs; omega
      have hnz : sz nx ≤ sz t := by simp only [sz] at hs1; omega
      have hnw : wt nx ≤ wt t := by simp only [wt] at hw1; omega
      obtain ⟨h1, h2, h3, h4⟩ := Ms.flt_node hfl
      have HNX : Hid (NodesFrom w (some ⟨b, o, none⟩) n (i + 1) nx ∧ isN nx = true ∧ sz nx ≤ sz t ∧ wt nx ≤ wt t ∧ flt nx false (k == 1) 0 [] = 0) := ⟨hnext, hnnx, hnz, hnw, h4⟩
      have HAC0 := Lib.hid hac0; have HCF := Lib.hid hfr3; have HNC := Lib.hid hncs; have HCZ := Lib.hid hcsz; have HCW := Lib.hid hcsw
      have has : (⟨acc.toArray⟩ : ByteArray).size ≤ 12000000 := by rw [sizeOf_mk]; exact hal
      have hkk := fine_kind h1
      clear hf1 hn1 hs1 hw1 hac0 hfl q0 q1 q2 q3 hsv hnext kc hncs hnnx hl3 hfr3 HT hcsz hcsw hnz hnw h4 h1
      go_upto_region 6 with fail
      obtain ⟨cb, hcb⟩ : ∃ cb, cb = wr.heap.size := ⟨_, rfl⟩
      have hb1 : Below w.heap.size w (wr.alloc (.cells #[.int .i64 k, .string ⟨x.toArray⟩, .int .i64 f, .slice a3 n3 c3] 35)) := HB.out.alloc HB.out.size _
      have j0 : (wr.alloc (.cells #[.int .i64 k, .string ⟨x.toArray⟩, .int .i64 f, .slice a3 n3 c3] 35)).cell? ⟨cb, 0, none⟩ = some (.int .i64 k) := by rw [hcb]; simp
      have j1 : (wr.alloc (.cells #[.int .i64 k, .string ⟨x.toArray⟩, .int .i64 f, .slice a3 n3 c3] 35)).cell? ⟨cb, 1, none⟩ = some (.string ⟨x.toArray⟩) := by rw [hcb]; simp
      have j2 : (wr.alloc (.cells #[.int .i64 k, .string ⟨x.toArray⟩, .int .i64 f, .slice a3 n3 c3] 35)).cell? ⟨cb, 2, none⟩ = some (.int .i64 f) := by rw [hcb]; simp
      have j3 : (wr.alloc (.cells #[.int .i64 k, .string ⟨x.toArray⟩, .int .i64 f, .slice a3 n3 c3] 35)).cell? ⟨cb, 3, none⟩ = some (.slice a3 n3 c3) := by rw [hcb]; simp
      have hcs1 : (wr.alloc (.cells #[.int .i64 k, .string ⟨x.toArray⟩, .int .i64 f, .slice a3 n3 c3] 35)).heap.size = cb + 1 := by rw [hcb]; simp
      rw [← hcb]
      generalize wr.alloc (.cells #[.int .i64 k, .string ⟨x.toArray⟩, .int .i64 f, .slice a3 n3 c3] 35) = W1 at hb1 j0 j1 j2 j3 hcs1 ⊢
      have HB1 := Lib.hid hb1
      clear hb1 k0 k1 k2 k3 hcb
      rcases hkk with rfl | rfl | rfl | rfl | rfl | ⟨rfl, hmk⟩
      · obtain ⟨Qt, hQt⟩ : ∃ Qt, Qt = Lx.quote false x := ⟨_, rfl⟩
        have hql : Qt.length ≤ 12000000 := by rw [hQt]; have := (Lx.quote_len false x).2; omega
        have HQ := Lib.hid (show ∀ W, Calls Tryz.prog 32 #[.string ⟨x.toArray⟩, .bool false] W fun e w' => e = .returned (.string ⟨Qt.toArray⟩) ∧ w' = W from fun W => by
          rw [hQt]; exact quoted_ref ⟨x.toArray⟩ false W (by omega))
        have HNT := Lib.hid (show nodeT 1 f x cs false = Qt by rw [nodeT1, hQt])
        clear hQt
        have HSum := Lib.hid (show (⟨acc.toArray⟩ : ByteArray) ++ ⟨Qt.toArray⟩ = ⟨(acc ++ nodeT 1 f x cs false).toArray⟩ by rw [HNT.out]; rw [bytes_app _ Qt (acc) (by simp)])
        have hacl : (acc ++ nodeT 1 f x cs false).length ≤ 12000000 := by
          have h1 := HTot.out
          rw [← HAC0.out, txt_node, ← List.append_assoc, List.length_append] at h1; omega
        have HAL := Lib.hid hacl
        have HAC := Lib.hid (show (acc ++ nodeT 1 f x cs false) ++ txt nx false = txt t false by rw [← HAC0.out, txt_node, List.append_assoc])
        have HCa := Lib.hid (cases_val 1 f x (.slice a3 n3 c3) (.slice none 0 0) rfl)
        clear hacl
        go_wp2_with fail
        refine (HQ.out _).mono ?_
        rintro e W1' ⟨rfl, rfl⟩
        go_wp2_with fail
        rw [HSum.out]
        refine (HCa.out _).mono ?_
        rintro e W2 ⟨rfl, hb2⟩
        have HB2 := Lib.hid (HB1.out.trans (hb2.mono HB1.out.size))
        have e0 := (hb2.cell (p := ⟨cb, 0, none⟩) (by show cb < _; omega)).trans j0
        clear hb2 j0 j1 j2 j3
        obtain ⟨accn, haccn⟩ : ∃ accn, accn = acc ++ nodeT 1 f x cs false := ⟨_, rfl⟩
        rw [← haccn] at HAL HAC ⊢
        clear haccn
        go_wp2_with fail
        go_loopw [5, 10] (fun s k wr2 => s = .string ⟨accn.toArray⟩ ∧ k = .int .i64 0 ∧ wr2 = W2) (fun _ _ _ => 0)
        case atStart => exact ⟨rfl, rfl, rfl⟩
        case round =>
          obtain ⟨rfl, rfl, rfl⟩ := hrel
          go_wp2_with fail
          go_roundw
          case rel => exact ⟨i + 1, nx, accn, ((1 : Int) == 1), rfl, by go_num, by omega, HAL.out, ⟨HNX.out.1, HNX.out.2.1, HNX.out.2.2.1, HNX.out.2.2.2.1, HAC.out, HNX.out.2.2.2.2⟩, HB2⟩
          case measure => simp [RowKit.intOf]; omega
      · have HNT := Lib.hid (nodeT2 f x cs false)
        have HSum := Lib.hid (show (⟨acc.toArray⟩ : ByteArray) ++ (⟨#[123]⟩ : ByteArray) ++ ⟨x.toArray⟩ ++ (⟨#[125]⟩ : ByteArray) = ⟨(acc ++ nodeT 2 f x cs false).toArray⟩ by rw [HNT.out]; rw [bytes_app _ [123] (acc) (by simp), bytes_app _ x (acc ++ [123]) (by simp), bytes_app _ [125] (acc ++ [123] ++ x) (by simp)]; simp)
        have hacl : (acc ++ nodeT 2 f x cs false).length ≤ 12000000 := by
          have h1 := HTot.out
          rw [← HAC0.out, txt_node, ← List.append_assoc, List.length_append] at h1; omega
        have HAL := Lib.hid hacl
        have HAC := Lib.hid (show (acc ++ nodeT 2 f x cs false) ++ txt nx false = txt t false by rw [← HAC0.out, txt_node, List.append_assoc])
        have HCa := Lib.hid (cases_val 2 f x (.slice a3 n3 c3) (.slice none 0 0) rfl)
        clear hacl
        go_wp2_with fail
        rw [HSum.out]
        refine (HCa.out _).mono ?_
        rintro e W2 ⟨rfl, hb2⟩
        have HB2 := Lib.hid (HB1.out.trans (hb2.mono HB1.out.size))
        have e0 := (hb2.cell (p := ⟨cb, 0, none⟩) (by show cb < _; omega)).trans j0
        clear hb2 j0 j1 j2 j3
        obtain ⟨accn, haccn⟩ : ∃ accn, accn = acc ++ nodeT 2 f x cs false := ⟨_, rfl⟩
        rw [← haccn] at HAL HAC ⊢
        clear haccn
        go_wp2_with fail
        go_loopw [5, 10] (fun s k wr2 => s = .string ⟨accn.toArray⟩ ∧ k = .int .i64 0 ∧ wr2 = W2) (fun _ _ _ => 0)
        case atStart => exact ⟨rfl, rfl, rfl⟩
        case round =>
          obtain ⟨rfl, rfl, rfl⟩ := hrel
          go_wp2_with fail
          go_roundw
          case rel => exact ⟨i + 1, nx, accn, ((2 : Int) == 1), rfl, by go_num, by omega, HAL.out, ⟨HNX.out.1, HNX.out.2.1, HNX.out.2.2.1, HNX.out.2.2.2.1, HAC.out, HNX.out.2.2.2.2⟩, HB2⟩
          case measure => simp [RowKit.intOf]; omega
      · have HNT := Lib.hid (nodeT3 f x cs false)
        have HSum := Lib.hid (show (⟨acc.toArray⟩ : ByteArray) ++ (⟨#[123]⟩ : ByteArray) ++ ⟨x.toArray⟩ ++ (⟨#[44, 32, 110, 117, 109, 98, 101, 114, 125]⟩ : ByteArray) = ⟨(acc ++ nodeT 3 f x cs false).toArray⟩ by rw [HNT.out]; rw [bytes_app _ [123] (acc) (by simp), bytes_app _ x (acc ++ [123]) (by simp), bytes_app _ [44, 32, 110, 117, 109, 98, 101, 114, 125] (acc ++ [123] ++ x) (by simp)]; simp)
        have hacl : (acc ++ nodeT 3 f x cs false).length ≤ 12000000 := by
          have h1 := HTot.out
          rw [← HAC0.out, txt_node, ← List.append_assoc, List.length_append] at h1; omega
        have HAL := Lib.hid hacl
        have HAC := Lib.hid (show (acc ++ nodeT 3 f x cs false) ++ txt nx false = txt t false by rw [← HAC0.out, txt_node, List.append_assoc])
        have HCa := Lib.hid (cases_val 3 f x (.slice a3 n3 c3) (.slice none 0 0) rfl)
        clear hacl
        go_wp2_with fail
        rw [HSum.out]
        refine (HCa.out _).mono ?_
        rintro e W2 ⟨rfl, hb2⟩
        have HB2 := Lib.hid (HB1.out.trans (hb2.mono HB1.out.size))
        have e0 := (hb2.cell (p := ⟨cb, 0, none⟩) (by show cb < _; omega)).trans j0
        clear hb2 j0 j1 j2 j3
        obtain ⟨accn, haccn⟩ : ∃ accn, accn = acc ++ nodeT 3 f x cs false := ⟨_, rfl⟩
        rw [← haccn] at HAL HAC ⊢
        clear haccn
        go_wp2_with fail
        go_loopw [5, 10] (fun s k wr2 => s = .string ⟨accn.toArray⟩ ∧ k = .int .i64 0 ∧ wr2 = W2) (fun _ _ _ => 0)
        case atStart => exact ⟨rfl, rfl, rfl⟩
        case round =>
          obtain ⟨rfl, rfl, rfl⟩ := hrel
          go_wp2_with fail
          go_roundw
          case rel => exact ⟨i + 1, nx, accn, ((3 : Int) == 1), rfl, by go_num, by omega, HAL.out, ⟨HNX.out.1, HNX.out.2.1, HNX.out.2.2.1, HNX.out.2.2.2.1, HAC.out, HNX.out.2.2.2.2⟩, HB2⟩
          case measure => simp [RowKit.intOf]; omega
      · have HFc := Lib.hid (show flt cs true false 4 [] = 0 from by simpa using h3 rfl)
        have hf9 : 0 ≤ f ∧ f ≤ 9 := by omega
        clear h3
        by_cases hf0 : f = 0
        · subst hf0
          obtain ⟨Hd, hHd⟩ : ∃ Hd : List UInt8, Hd = [123] ++ x ++ [44, 32, 112, 108, 117, 114, 97, 108, 44] := ⟨_, rfl⟩
          have hNT : nodeT 4 0 x cs false = Hd ++ txt cs true ++ [125] := by rw [hHd]; exact nodeT40 x cs false
          have hHl : Hd.length ≤ 2000100 := by rw [hHd]; simp; omega
          have hacT : (acc ++ Hd ++ txt cs true ++ [125]) ++ txt nx false = txt t false := by rw [← HAC0.out, txt_node, hNT]; simp
          have htot : acc.length + Hd.length + (txt cs true).length + 1 ≤ 12000000 := by
            have h1 := HTot.out
            rw [← hacT] at h1
            simp only [List.length_append, List.length_cons, List.length_nil] at h1; omega
          have HSum := Lib.hid (show (⟨acc.toArray⟩ : ByteArray) ++ (⟨#[123]⟩ : ByteArray) ++ ⟨x.toArray⟩ ++ (⟨#[44, 32, 112, 108, 117, 114, 97, 108, 44]⟩ : ByteArray) = ⟨(acc ++ Hd).toArray⟩ by rw [hHd]; rw [bytes_app _ [123] (acc) (by simp), bytes_app _ x (acc ++ [123]) (by simp), bytes_app _ [44, 32, 112, 108, 117, 114, 97, 108, 44] (acc ++ [123] ++ x) (by simp)]; simp)
          have HCa := Lib.hid (cases_val 4 0 x (.slice a3 n3 c3) (.slice a3 n3 c3) rfl)
          have HNT := Lib.hid hacT; have HTt := Lib.hid htot
          have hacl : (acc ++ Hd).length ≤ 12000000 := by rw [List.length_append]; omega
          clear hacT hNT hHd htot
          go_wp2_with fail
          rw [HSum.out]
          refine (HCa.out _).mono ?_
          rintro e W2 ⟨rfl, hb2⟩
          have HB2 := Lib.hid (HB1.out.trans (hb2.mono HB1.out.size))
          have hcb2 : cb < W2.heap.size := by have := hb2.size; omega
          have e0 := (hb2.cell (p := ⟨cb, 0, none⟩) (by show cb < _; omega)).trans j0
          clear hb2 j0 j1 j2 j3 HSum HCa
          obtain ⟨acc1, hacc1⟩ : ∃ acc1, acc1 = acc ++ Hd := ⟨_, rfl⟩
          rw [← hacc1] at HNT hacl ⊢
          have hacc1l : acc1.length = acc.length + Hd.length := by rw [hacc1, List.length_append]
          clear hacc1
          have HTt2 := Lib.hid (show acc1.length + (txt cs true).length + 1 ≤ 12000000 by have := HTt.out; omega)
          clear hacc1l HTt
          go_wp2_with fail
          go_loopw [5, 10] (fun s k wr2 => ∃ (j' : Nat) (t3 : T) (acc2 : List UInt8) (seen : List (List UInt8)), s = .string ⟨acc2.toArray⟩ ∧ k = .int .i64 j' ∧ j' ≤ n3 ∧ acc2.length ≤ 12000000 ∧ Hid (CasesFrom w a3 n3 j' t3 ∧ isN.isC t3 = true ∧ sz t3 ≤ sz cs ∧ wt t3 ≤ wt cs ∧ acc2 ++ txt t3 true = acc1 ++ txt cs true ∧ flt t3 true false 4 seen = 0) ∧ Hid (Below W2.heap.size W2 wr2)) (fun _ k _ => n3 - (RowKit.intOf k).toNat)
          case atStart => exact ⟨0, cs, acc1, [], rfl, rfl, by omega, hacl, ⟨HCF.out, HNC.out, Nat.le_refl _, Nat.le_refl _, rfl, HFc.out⟩, Below.refl _ _⟩
          case round =>
            obtain ⟨j, t3, acc2, seen, rfl, rfl, hjn, hal2, HT3, HB3⟩ := hrel
            have HBw3 : Hid (Below w.heap.size w wr) := HB2.out.trans (HB3.out.mono HB2.out.size)
            have f0 := (HB3.out.cell (p := ⟨cb, 0, none⟩) hcb2).trans e0
            by_cases hlt2 : j < n3
            · obtain ⟨g1, g2, g3, g4, g5, g6⟩ := HT3.out
              obtain ⟨key, body, nx3, b2, o2, v3, rfl, rfl, p0, p1, hsv3, hnext3⟩ := casesFrom_next g1 hlt2 g2
              obtain ⟨va, vn, vcap, rfl⟩ : ∃ a n c, v3 = .slice a n c := by
                rcases hsv3 with ⟨⟨_, h⟩, _⟩ | ⟨b', o', n', c', h, _⟩
                · exact ⟨_, _, _, h⟩
                · exact ⟨_, _, _, h⟩
              obtain ⟨hnb, hncs2⟩ := isC_case g2
              obtain ⟨_, _, hfb, hfx⟩ := Ms.flt_case g6
              have kc := keepCells HBw3.out
              have t0 := cell_regrown (kc _ _ _ p0); have t1 := cell_regrown (kc _ _ _ p1)
              have hbz : sz body < N := by have h1 := HCZ.out; simp only [sz] at g3; omega
              have hbw : wt body ≤ 2000000 := by have h1 := HCW.out; simp only [wt] at g4; omega
              have hkl : key.length ≤ 2000000 := by have h1 := HCW.out; simp only [wt] at g4; omega
              have hgz : sz nx3 ≤ sz cs := by simp only [sz] at g3; omega
              have hgw : wt nx3 ≤ wt cs := by simp only [wt] at g4; omega
              rw [txt_case, ← List.append_assoc] at g5
              have hal3 : (acc2 ++ caseT key body true).length ≤ 12000000 := by
                have h1 := HTt2.out
                have h2 := congrArg List.length g5
                simp only [List.length_append] at h2 ⊢; omega
              obtain ⟨tb, htb⟩ : ∃ tb, tb = txt body true := ⟨_, rfl⟩
              have D1 := Lib.hid (show ∀ dr os, Calls Tryz.prog 16 #[.slice va vn vcap, .bool true] (grow (redrawn wr dr) os) (fun e w' => e = .returned (.string ⟨tb.toArray⟩) ∧ ∃ p : Regrown, w' = grow (redrawn wr p.d) p.os) from
                fun dr os => Calls.regrown_of (by
                  have h := HIH.out body (.slice va vn vcap) true false (grow (redrawn wr dr) os) hbz hnb hbw (hsv3.below (HBw3.out.trans ((below_regrown wr dr os).mono HBw3.out.size))) hfb
                  rw [← htb] at h; exact h))
              have hct : caseT key body true = [32] ++ key ++ [32, 123] ++ tb ++ [125] := by rw [htb]; rfl
              have hl3 : acc2.length + 1 + key.length + 2 + tb.length + 1 ≤ 12000000 := by
                rw [hct] at hal3; simp only [List.length_append, List.length_cons, List.length_nil] at hal3; omega
              have n1 : ¬ 9223372036854775807 < acc2.length + 1 := by omega
              have n2 : ¬ 9223372036854775807 < acc2.length + 1 + key.length := by omega
              have n3' : ¬ 9223372036854775807 < acc2.length + 1 + key.length + 2 := by omega
              have n4 : ¬ 9223372036854775807 < acc2.length + 1 + key.length + 2 + tb.length := by omega
              have n5 : ¬ 9223372036854775807 < acc2.length + 1 + key.length + 2 + tb.length + 1 := by omega
              have HSe := Lib.hid (show (⟨acc2.toArray⟩ : ByteArray) ++ (⟨#[32]⟩ : ByteArray) ++ ⟨key.toArray⟩ ++ (⟨#[32, 123]⟩ : ByteArray) ++ ⟨tb.toArray⟩ ++ (⟨#[125]⟩ : ByteArray) = ⟨(acc2 ++ caseT key body true).toArray⟩ by
                rw [hct, bytes_app _ [32] acc2 (by simp), bytes_app _ key (acc2 ++ [32]) (by simp), bytes_app _ [32, 123] (acc2 ++ [32] ++ key) (by simp), bytes_app _ tb (acc2 ++ [32] ++ key ++ [32, 123]) (by simp), bytes_app _ [125] (acc2 ++ [32] ++ key ++ [32, 123] ++ tb) (by simp)]; simp)
              have HNX3 : Hid (CasesFrom w (some ⟨b2, o2, none⟩) n3 (j + 1) nx3 ∧ isN.isC nx3 = true ∧ sz nx3 ≤ sz cs ∧ wt nx3 ≤ wt cs ∧ (acc2 ++ caseT key body true) ++ txt nx3 true = acc1 ++ txt cs true ∧ flt nx3 true false 4 (seen ++ [key]) = 0) := ⟨hnext3, hncs2, hgz, hgw, g5, hfx⟩
              have HAL3 := Lib.hid hal3
              clear g1 g2 g3 g4 g5 g6 p0 p1 hsv3 hnext3 kc hbz hbw hgz hgw hnb hncs2 HT3 hfb hfx htb hct hal3 hl3 f0
              go_wp2_with fail
              refine wp_region_quiet_below (by kernel_rfl) (by kernel_rfl) ?_
              repeat (quiet_step (first | with_reducible exact D1.out _ _))
              refine wpQuiet_nil ?_
              intro _ hw'
              obtain ⟨⟨dq, osq⟩, hw''⟩ := hw'
              subst hw''
              have HB4 := Lib.hid (HB3.out.trans ((below_regrown wr dq osq).mono HB3.out.size))
              clear t0 t1 D1 n1 n2 n3' n4 n5
              simp only []
              generalize grow (redrawn wr dq) osq = W4 at HB4 ⊢
              go_wp2_with fail
              go_roundw
              case rel => exact ⟨j + 1, nx3, acc2 ++ caseT key body true, seen ++ [key], by rw [← HSe.out], by go_num, by omega, HAL3.out, HNX3.out, HB4⟩
              case measure => simp [RowKit.intOf]; omega
            · have hje : j = n3 := by omega
              subst hje
              obtain ⟨g1, g2, g3, g4, g5, g6⟩ := HT3.out
              have ht3 := casesFrom_end g1
              subst ht3
              have g7 : acc2 = acc1 ++ txt cs true := by simpa [txt] using g5
              have HSe := Lib.hid (show (⟨acc2.toArray⟩ : ByteArray) ++ (⟨#[125]⟩ : ByteArray) = ⟨(acc2 ++ [125]).toArray⟩ by rw [bytes_app _ [125] acc2 (by simp)])
              have HAC := Lib.hid (show (acc2 ++ [125]) ++ txt nx false = txt t false by rw [g7]; exact HNT.out)
              have hal4 : (acc2 ++ [125]).length ≤ 12000000 := by
                rw [g7]; have := HTt2.out; simp only [List.length_append, List.length_cons, List.length_nil]; omega
              have HAL := Lib.hid hal4
              clear g1 g2 g3 g4 g5 g6 g7 HT3 hal4
              go_wp2_with fail
              rw [HSe.out]
              obtain ⟨accn, haccn⟩ : ∃ accn, accn = acc2 ++ [125] := ⟨_, rfl⟩
              rw [← haccn] at HAL HAC ⊢
              clear haccn
              go_roundw
              case rel => exact ⟨i + 1, nx, accn, ((4 : Int) == 1), rfl, by go_num, by omega, HAL.out, ⟨HNX.out.1, HNX.out.2.1, HNX.out.2.2.1, HNX.out.2.2.2.1, HAC.out, HNX.out.2.2.2.2⟩, HBw3⟩
              case measure => simp [RowKit.intOf]; omega
        · obtain ⟨d, rfl⟩ : ∃ d : Nat, f = d := ⟨f.toNat, by omega⟩
          have hd1 : 1 ≤ d := by omega
          have hd9 : d ≤ 9 := by omega
          clear hf0 hf9
          obtain ⟨Hd, hHd⟩ : ∃ Hd : List UInt8, Hd = [123] ++ x ++ [44, 32, 112, 108, 117, 114, 97, 108, 44] ++ ([32, 111, 102, 102, 115, 101, 116, 58] ++ Lib.decDigits d) := ⟨_, rfl⟩
          have hNT : nodeT 4 (d : Int) x cs false = Hd ++ txt cs true ++ [125] := by rw [hHd]; exact nodeT4p x cs false d hd1
          have hHl : Hd.length ≤ 2000100 := by rw [hHd]; simp; have := dec_len 1 d (by omega); omega
          have hacT : (acc ++ Hd ++ txt cs true ++ [125]) ++ txt nx false = txt t false := by rw [← HAC0.out, txt_node, hNT]; simp
          have htot : acc.length + Hd.length + (txt cs true).length + 1 ≤ 12000000 := by
            have h1 := HTot.out
            rw [← hacT] at h1
            simp only [List.length_append, List.length_cons, List.length_nil] at h1; omega
          obtain ⟨Ah, hAh⟩ : ∃ Ah : List UInt8, Ah = acc ++ [123] ++ x ++ [44, 32, 112, 108, 117, 114, 97, 108, 44] := ⟨_, rfl⟩
          have hAl : Ah.length ≤ 12000000 := by
            have h1 : Hd.length = 1 + x.length + 9 + (8 + (Lib.decDigits d).length) := by rw [hHd]; simp; omega
            rw [hAh]; simp only [List.length_append, List.length_cons, List.length_nil]; omega
          have HSum := Lib.hid (show (⟨acc.toArray⟩ : ByteArray) ++ (⟨#[123]⟩ : ByteArray) ++ ⟨x.toArray⟩ ++ (⟨#[44, 32, 112, 108, 117, 114, 97, 108, 44]⟩ : ByteArray) = ⟨Ah.toArray⟩ by rw [hAh]; rw [bytes_app _ [123] (acc) (by simp), bytes_app _ x (acc ++ [123]) (by simp), bytes_app _ [44, 32, 112, 108, 117, 114, 97, 108, 44] (acc ++ [123] ++ x) (by simp)])
          have HSum2 := Lib.hid (show (⟨Ah.toArray⟩ : ByteArray) ++ (⟨#[32, 111, 102, 102, 115, 101, 116, 58]⟩ : ByteArray) ++ ⟨(Lib.decDigits d).toArray⟩ = ⟨(acc ++ Hd).toArray⟩ by rw [bytes_app _ [32, 111, 102, 102, 115, 101, 116, 58] Ah (by simp), bytes_app _ (Lib.decDigits d) (Ah ++ [32, 111, 102, 102, 115, 101, 116, 58]) (by simp), hAh, hHd]; simp)
          have HDg := Lib.hid (show ∀ W, Calls Tryz.prog 33 #[.int .i64 d, .int .i64 0] W fun e w' => e = .returned (.string ⟨(Lib.decDigits d).toArray⟩) ∧ Below W.heap.size W w' from fun W => by
            have h := rdigits_any 0 d 0 W (by omega) (by omega) (by decide)
            rw [show padTo 0 (d : Int) = Lib.decDigits d by rw [padTo_nat]; simp] at h; exact h)
          have hdl := dec_len 1 d (by omega)
          clear hAh
          have HCa := Lib.hid (cases_val 4 (d : Int) x (.slice a3 n3 c3) (.slice a3 n3 c3) rfl)
          have HNT := Lib.hid hacT; have HTt := Lib.hid htot
          have hacl : (acc ++ Hd).length ≤ 12000000 := by rw [List.length_append]; omega
          clear hacT hNT hHd htot
          go_upto_if 70 with fail
          rw [HSum.out]
          go_wp2_with fail
          refine (HDg.out _).mono ?_
          rintro e W1' ⟨rfl, hb2⟩
          have e0 := (hb2.cell (p := ⟨cb, 0, none⟩) (by show cb < _; omega)).trans j0
          have e1 := (hb2.cell (p := ⟨cb, 1, none⟩) (by show cb < _; omega)).trans j1
          have e2 := (hb2.cell (p := ⟨cb, 2, none⟩) (by show cb < _; omega)).trans j2
          have e3 := (hb2.cell (p := ⟨cb, 3, none⟩) (by show cb < _; omega)).trans j3
          have HB1' := Lib.hid (HB1.out.trans (hb2.mono HB1.out.size))
          have hcs2 : cb < W1'.heap.size := by have := hb2.size; omega
          clear hb2 j0 j1 j2 j3 HB1
          have HB1 := HB1'; have j0 := e0; have j1 := e1; have j2 := e2; have j3 := e3
          clear HB1' e0 e1 e2 e3
          go_wp2_with fail
          rw [HSum2.out]
          refine (HCa.out _).mono ?_
          rintro e W2 ⟨rfl, hb2⟩
          have HB2 := Lib.hid (HB1.out.trans (hb2.mono HB1.out.size))
          have hcb2 : cb < W2.heap.size := by have := hb2.size; omega
          have e0 := (hb2.cell (p := ⟨cb, 0, none⟩) (by show cb < _; omega)).trans j0
          clear hb2 j0 j1 j2 j3 HSum HCa
          obtain ⟨acc1, hacc1⟩ : ∃ acc1, acc1 = acc ++ Hd := ⟨_, rfl⟩
          rw [← hacc1] at HNT hacl ⊢
          have hacc1l : acc1.length = acc.length + Hd.length := by rw [hacc1, List.length_append]
          clear hacc1
          have HTt2 := Lib.hid (show acc1.length + (txt cs true).length + 1 ≤ 12000000 by have := HTt.out; omega)
          clear hacc1l HTt
          go_wp2_with fail
          go_loopw [5, 10] (fun s k wr2 => ∃ (j' : Nat) (t3 : T) (acc2 : List UInt8) (seen : List (List UInt8)), s = .string ⟨acc2.toArray⟩ ∧ k = .int .i64 j' ∧ j' ≤ n3 ∧ acc2.length ≤ 12000000 ∧ Hid (CasesFrom w a3 n3 j' t3 ∧ isN.isC t3 = true ∧ sz t3 ≤ sz cs ∧ wt t3 ≤ wt cs ∧ acc2 ++ txt t3 true = acc1 ++ txt cs true ∧ flt t3 true false 4 seen = 0) ∧ Hid (Below W2.heap.size W2 wr2)) (fun _ k _ => n3 - (RowKit.intOf k).toNat)
          case atStart => exact ⟨0, cs, acc1, [], rfl, rfl, by omega, hacl, ⟨HCF.out, HNC.out, Nat.le_refl _, Nat.le_refl _, rfl, HFc.out⟩, Below.refl _ _⟩
          case round =>
            obtain ⟨j, t3, acc2, seen, rfl, rfl, hjn, hal2, HT3, HB3⟩ := hrel
            have HBw3 : Hid (Below w.heap.size w wr) := HB2.out.trans (HB3.out.mono HB2.out.size)
            have f0 := (HB3.out.cell (p := ⟨cb, 0, none⟩) hcb2).trans e0
            by_cases hlt2 : j < n3
            · obtain ⟨g1, g2, g3, g4, g5, g6⟩ := HT3.out
              obtain ⟨key, body, nx3, b2, o2, v3, rfl, rfl, p0, p1, hsv3, hnext3⟩ := casesFrom_next g1 hlt2 g2
              obtain ⟨va, vn, vcap, rfl⟩ : ∃ a n c, v3 = .slice a n c := by
                rcases hsv3 with ⟨⟨_, h⟩, _⟩ | ⟨b', o', n', c', h, _⟩
                · exact ⟨_, _, _, h⟩
                · exact ⟨_, _, _, h⟩
              obtain ⟨hnb, hncs2⟩ := isC_case g2
              obtain ⟨_, _, hfb, hfx⟩ := Ms.flt_case g6
              have kc := keepCells HBw3.out
              have t0 := cell_regrown (kc _ _ _ p0); have t1 := cell_regrown (kc _ _ _ p1)
              have hbz : sz body < N := by have h1 := HCZ.out; simp only [sz] at g3; omega
              have hbw : wt body ≤ 2000000 := by have h1 := HCW.out; simp only [wt] at g4; omega
              have hkl : key.length ≤ 2000000 := by have h1 := HCW.out; simp only [wt] at g4; omega
              have hgz : sz nx3 ≤ sz cs := by simp only [sz] at g3; omega
              have hgw : wt nx3 ≤ wt cs := by simp only [wt] at g4; omega
              rw [txt_case, ← List.append_assoc] at g5
              have hal3 : (acc2 ++ caseT key body true).length ≤ 12000000 := by
                have h1 := HTt2.out
                have h2 := congrArg List.length g5
                simp only [List.length_append] at h2 ⊢; omega
              obtain ⟨tb, htb⟩ : ∃ tb, tb = txt body true := ⟨_, rfl⟩
              have D1 := Lib.hid (show ∀ dr os, Calls Tryz.prog 16 #[.slice va vn vcap, .bool true] (grow (redrawn wr dr) os) (fun e w' => e = .returned (.string ⟨tb.toArray⟩) ∧ ∃ p : Regrown, w' = grow (redrawn wr p.d) p.os) from
                fun dr os => Calls.regrown_of (by
                  have h := HIH.out body (.slice va vn vcap) true false (grow (redrawn wr dr) os) hbz hnb hbw (hsv3.below (HBw3.out.trans ((below_regrown wr dr os).mono HBw3.out.size))) hfb
                  rw [← htb] at h; exact h))
              have hct : caseT key body true = [32] ++ key ++ [32, 123] ++ tb ++ [125] := by rw [htb]; rfl
              have hl3 : acc2.length + 1 + key.length + 2 + tb.length + 1 ≤ 12000000 := by
                rw [hct] at hal3; simp only [List.length_append, List.length_cons, List.length_nil] at hal3; omega
              have n1 : ¬ 9223372036854775807 < acc2.length + 1 := by omega
              have n2 : ¬ 9223372036854775807 < acc2.length + 1 + key.length := by omega
              have n3' : ¬ 9223372036854775807 < acc2.length + 1 + key.length + 2 := by omega
              have n4 : ¬ 9223372036854775807 < acc2.length + 1 + key.length + 2 + tb.length := by omega
              have n5 : ¬ 9223372036854775807 < acc2.length + 1 + key.length + 2 + tb.length + 1 := by omega
              have HSe := Lib.hid (show (⟨acc2.toArray⟩ : ByteArray) ++ (⟨#[32]⟩ : ByteArray) ++ ⟨key.toArray⟩ ++ (⟨#[32, 123]⟩ : ByteArray) ++ ⟨tb.toArray⟩ ++ (⟨#[125]⟩ : ByteArray) = ⟨(acc2 ++ caseT key body true).toArray⟩ by
                rw [hct, bytes_app _ [32] acc2 (by simp), bytes_app _ key (acc2 ++ [32]) (by simp), bytes_app _ [32, 123] (acc2 ++ [32] ++ key) (by simp), bytes_app _ tb (acc2 ++ [32] ++ key ++ [32, 123]) (by simp), bytes_app _ [125] (acc2 ++ [32] ++ key ++ [32, 123] ++ tb) (by simp)]; simp)
              have HNX3 : Hid (CasesFrom w (some ⟨b2, o2, none⟩) n3 (j + 1) nx3 ∧ isN.isC nx3 = true ∧ sz nx3 ≤ sz cs ∧ wt nx3 ≤ wt cs ∧ (acc2 ++ caseT key body true) ++ txt nx3 true = acc1 ++ txt cs true ∧ flt nx3 true false 4 (seen ++ [key]) = 0) := ⟨hnext3, hncs2, hgz, hgw, g5, hfx⟩
              have HAL3 := Lib.hid hal3
              clear g1 g2 g3 g4 g5 g6 p0 p1 hsv3 hnext3 kc hbz hbw hgz hgw hnb hncs2 HT3 hfb hfx htb hct hal3 hl3 f0
              go_wp2_with fail
              refine wp_region_quiet_below (by kernel_rfl) (by kernel_rfl) ?_
              repeat (quiet_step (first | with_reducible exact D1.out _ _))
              refine wpQuiet_nil ?_
              intro _ hw'
              obtain ⟨⟨dq, osq⟩, hw''⟩ := hw'
              subst hw''
              have HB4 := Lib.hid (HB3.out.trans ((below_regrown wr dq osq).mono HB3.out.size))
              clear t0 t1 D1 n1 n2 n3' n4 n5
              simp only []
              generalize grow (redrawn wr dq) osq = W4 at HB4 ⊢
              go_wp2_with fail
              go_roundw
              case rel => exact ⟨j + 1, nx3, acc2 ++ caseT key body true, seen ++ [key], by rw [← HSe.out], by go_num, by omega, HAL3.out, HNX3.out, HB4⟩
              case measure => simp [RowKit.intOf]; omega
            · have hje : j = n3 := by omega
              subst hje
              obtain ⟨g1, g2, g3, g4, g5, g6⟩ := HT3.out
              have ht3 := casesFrom_end g1
              subst ht3
              have g7 : acc2 = acc1 ++ txt cs true := by simpa [txt] using g5
              have HSe := Lib.hid (show (⟨acc2.toArray⟩ : ByteArray) ++ (⟨#[125]⟩ : ByteArray) = ⟨(acc2 ++ [125]).toArray⟩ by rw [bytes_app _ [125] acc2 (by simp)])
              have HAC := Lib.hid (show (acc2 ++ [125]) ++ txt nx false = txt t false by rw [g7]; exact HNT.out)
              have hal4 : (acc2 ++ [125]).length ≤ 12000000 := by
                rw [g7]; have := HTt2.out; simp only [List.length_append, List.length_cons, List.length_nil]; omega
              have HAL := Lib.hid hal4
              clear g1 g2 g3 g4 g5 g6 g7 HT3 hal4
              go_wp2_with fail
              rw [HSe.out]
              obtain ⟨accn, haccn⟩ : ∃ accn, accn = acc2 ++ [125] := ⟨_, rfl⟩
              rw [← haccn] at HAL HAC ⊢
              clear haccn
              go_roundw
              case rel => exact ⟨i + 1, nx, accn, ((4 : Int) == 1), rfl, by go_num, by omega, HAL.out, ⟨HNX.out.1, HNX.out.2.1, HNX.out.2.2.1, HNX.out.2.2.2.1, HAC.out, HNX.out.2.2.2.2⟩, HBw3⟩
              case measure => simp [RowKit.intOf]; omega
      · have HFc := Lib.hid (show flt cs false false 5 [] = 0 from by simpa using h3 rfl)
        clear h3
        obtain ⟨Hd, hHd⟩ : ∃ Hd : List UInt8, Hd = [123] ++ x ++ [44, 32, 115, 101, 108, 101, 99, 116, 44] := ⟨_, rfl⟩
        have hNT : nodeT 5 f x cs false = Hd ++ txt cs false ++ [125] := by rw [hHd]; exact nodeT5 f x cs false
        have hHl : Hd.length ≤ 2000100 := by rw [hHd]; simp; omega
        have hacT : (acc ++ Hd ++ txt cs false ++ [125]) ++ txt nx false = txt t false := by rw [← HAC0.out, txt_node, hNT]; simp
        have htot : acc.length + Hd.length + (txt cs false).length + 1 ≤ 12000000 := by
          have h1 := HTot.out
          rw [← hacT] at h1
          simp only [List.length_append, List.length_cons, List.length_nil] at h1; omega
        have HSum := Lib.hid (show (⟨acc.toArray⟩ : ByteArray) ++ (⟨#[123]⟩ : ByteArray) ++ ⟨x.toArray⟩ ++ (⟨#[44, 32, 115, 101, 108, 101, 99, 116, 44]⟩ : ByteArray) = ⟨(acc ++ Hd).toArray⟩ by rw [hHd]; rw [bytes_app _ [123] (acc) (by simp), bytes_app _ x (acc ++ [123]) (by simp), bytes_app _ [44, 32, 115, 101, 108, 101, 99, 116, 44] (acc ++ [123] ++ x) (by simp)]; simp)
        have HCa := Lib.hid (cases_val 5 f x (.slice a3 n3 c3) (.slice a3 n3 c3) rfl)
        have HNT := Lib.hid hacT; have HTt := Lib.hid htot
        have hacl : (acc ++ Hd).length ≤ 12000000 := by rw [List.length_append]; omega
        clear hacT hNT hHd htot
        go_wp2_with fail
        rw [HSum.out]
        refine (HCa.out _).mono ?_
        rintro e W2 ⟨rfl, hb2⟩
        have HB2 := Lib.hid (HB1.out.trans (hb2.mono HB1.out.size))
        have hcb2 : cb < W2.heap.size := by have := hb2.size; omega
        have e0 := (hb2.cell (p := ⟨cb, 0, none⟩) (by show cb < _; omega)).trans j0
        clear hb2 j0 j1 j2 j3 HSum HCa
        obtain ⟨acc1, hacc1⟩ : ∃ acc1, acc1 = acc ++ Hd := ⟨_, rfl⟩
        rw [← hacc1] at HNT hacl ⊢
        have hacc1l : acc1.length = acc.length + Hd.length := by rw [hacc1, List.length_append]
        clear hacc1
        have HTt2 := Lib.hid (show acc1.length + (txt cs false).length + 1 ≤ 12000000 by have := HTt.out; omega)
        clear hacc1l HTt
        go_wp2_with fail
        go_loopw [5, 10] (fun s k wr2 => ∃ (j' : Nat) (t3 : T) (acc2 : List UInt8) (seen : List (List UInt8)), s = .string ⟨acc2.toArray⟩ ∧ k = .int .i64 j' ∧ j' ≤ n3 ∧ acc2.length ≤ 12000000 ∧ Hid (CasesFrom w a3 n3 j' t3 ∧ isN.isC t3 = true ∧ sz t3 ≤ sz cs ∧ wt t3 ≤ wt cs ∧ acc2 ++ txt t3 false = acc1 ++ txt cs false ∧ flt t3 false false 5 seen = 0) ∧ Hid (Below W2.heap.size W2 wr2)) (fun _ k _ => n3 - (RowKit.intOf k).toNat)
        case atStart => exact ⟨0, cs, acc1, [], rfl, rfl, by omega, hacl, ⟨HCF.out, HNC.out, Nat.le_refl _, Nat.le_refl _, rfl, HFc.out⟩, Below.refl _ _⟩
        case round =>
          obtain ⟨j, t3, acc2, seen, rfl, rfl, hjn, hal2, HT3, HB3⟩ := hrel
          have HBw3 : Hid (Below w.heap.size w wr) := HB2.out.trans (HB3.out.mono HB2.out.size)
          have f0 := (HB3.out.cell (p := ⟨cb, 0, none⟩) hcb2).trans e0
          by_cases hlt2 : j < n3
          · obtain ⟨g1, g2, g3, g4, g5, g6⟩ := HT3.out
            obtain ⟨key, body, nx3, b2, o2, v3, rfl, rfl, p0, p1, hsv3, hnext3⟩ := casesFrom_next g1 hlt2 g2
            obtain ⟨va, vn, vcap, rfl⟩ : ∃ a n c, v3 = .slice a n c := by
              rcases hsv3 with ⟨⟨_, h⟩, _⟩ | ⟨b', o', n', c', h, _⟩
              · exact ⟨_, _, _, h⟩
              · exact ⟨_, _, _, h⟩
            obtain ⟨hnb, hncs2⟩ := isC_case g2
            obtain ⟨_, _, hfb, hfx⟩ := Ms.flt_case g6
            have kc := keepCells HBw3.out
            have t0 := cell_regrown (kc _ _ _ p0); have t1 := cell_regrown (kc _ _ _ p1)
            have hbz : sz body < N := by have h1 := HCZ.out; simp only [sz] at g3; omega
            have hbw : wt body ≤ 2000000 := by have h1 := HCW.out; simp only [wt] at g4; omega
            have hkl : key.length ≤ 2000000 := by have h1 := HCW.out; simp only [wt] at g4; omega
            have hgz : sz nx3 ≤ sz cs := by simp only [sz] at g3; omega
            have hgw : wt nx3 ≤ wt cs := by simp only [wt] at g4; omega
            rw [txt_case, ← List.append_assoc] at g5
            have hal3 : (acc2 ++ caseT key body false).length ≤ 12000000 := by
              have h1 := HTt2.out
              have h2 := congrArg List.length g5
              simp only [List.length_append] at h2 ⊢; omega
            obtain ⟨tb, htb⟩ : ∃ tb, tb = txt body false := ⟨_, rfl⟩
            have D1 := Lib.hid (show ∀ dr os, Calls Tryz.prog 16 #[.slice va vn vcap, .bool false] (grow (redrawn wr dr) os) (fun e w' => e = .returned (.string ⟨tb.toArray⟩) ∧ ∃ p : Regrown, w' = grow (redrawn wr p.d) p.os) from
              fun dr os => Calls.regrown_of (by
                have h := HIH.out body (.slice va vn vcap) false false (grow (redrawn wr dr) os) hbz hnb hbw (hsv3.below (HBw3.out.trans ((below_regrown wr dr os).mono HBw3.out.size))) hfb
                rw [← htb] at h; exact h))
            have hct : caseT key body false = [32] ++ key ++ [32, 123] ++ tb ++ [125] := by rw [htb]; rfl
            have hl3 : acc2.length + 1 + key.length + 2 + tb.length + 1 ≤ 12000000 := by
              rw [hct] at hal3; simp only [List.length_append, List.length_cons, List.length_nil] at hal3; omega
            have n1 : ¬ 9223372036854775807 < acc2.length + 1 := by omega
            have n2 : ¬ 9223372036854775807 < acc2.length + 1 + key.length := by omega
            have n3' : ¬ 9223372036854775807 < acc2.length + 1 + key.length + 2 := by omega
            have n4 : ¬ 9223372036854775807 < acc2.length + 1 + key.length + 2 + tb.length := by omega
            have n5 : ¬ 9223372036854775807 < acc2.length + 1 + key.length + 2 + tb.length + 1 := by omega
            have HSe := Lib.hid (show (⟨acc2.toArray⟩ : ByteArray) ++ (⟨#[32]⟩ : ByteArray) ++ ⟨key.toArray⟩ ++ (⟨#[32, 123]⟩ : ByteArray) ++ ⟨tb.toArray⟩ ++ (⟨#[125]⟩ : ByteArray) = ⟨(acc2 ++ caseT key body false).toArray⟩ by
              rw [hct, bytes_app _ [32] acc2 (by simp), bytes_app _ key (acc2 ++ [32]) (by simp), bytes_app _ [32, 123] (acc2 ++ [32] ++ key) (by simp), bytes_app _ tb (acc2 ++ [32] ++ key ++ [32, 123]) (by simp), bytes_app _ [125] (acc2 ++ [32] ++ key ++ [32, 123] ++ tb) (by simp)]; simp)
            have HNX3 : Hid (CasesFrom w (some ⟨b2, o2, none⟩) n3 (j + 1) nx3 ∧ isN.isC nx3 = true ∧ sz nx3 ≤ sz cs ∧ wt nx3 ≤ wt cs ∧ (acc2 ++ caseT key body false) ++ txt nx3 false = acc1 ++ txt cs false ∧ flt nx3 false false 5 (seen ++ [key]) = 0) := ⟨hnext3, hncs2, hgz, hgw, g5, hfx⟩
            have HAL3 := Lib.hid hal3
            clear g1 g2 g3 g4 g5 g6 p0 p1 hsv3 hnext3 kc hbz hbw hgz hgw hnb hncs2 HT3 hfb hfx htb hct hal3 hl3 f0
            go_wp2_with fail
            refine wp_region_quiet_below (by kernel_rfl) (by kernel_rfl) ?_
            repeat (quiet_step (first | with_reducible exact D1.out _ _))
            refine wpQuiet_nil ?_
            intro _ hw'
            obtain ⟨⟨dq, osq⟩, hw''⟩ := hw'
            subst hw''
            have HB4 := Lib.hid (HB3.out.trans ((below_regrown wr dq osq).mono HB3.out.size))
            clear t0 t1 D1 n1 n2 n3' n4 n5
            simp only []
            generalize grow (redrawn wr dq) osq = W4 at HB4 ⊢
            go_wp2_with fail
            go_roundw
            case rel => exact ⟨j + 1, nx3, acc2 ++ caseT key body false, seen ++ [key], by rw [← HSe.out], by go_num, by omega, HAL3.out, HNX3.out, HB4⟩
            case measure => simp [RowKit.intOf]; omega
          · have hje : j = n3 := by omega
            subst hje
            obtain ⟨g1, g2, g3, g4, g5, g6⟩ := HT3.out
            have ht3 := casesFrom_end g1
            subst ht3
            have g7 : acc2 = acc1 ++ txt cs false := by simpa [txt] using g5
            have HSe := Lib.hid (show (⟨acc2.toArray⟩ : ByteArray) ++ (⟨#[125]⟩ : ByteArray) = ⟨(acc2 ++ [125]).toArray⟩ by rw [bytes_app _ [125] acc2 (by simp)])
            have HAC := Lib.hid (show (acc2 ++ [125]) ++ txt nx false = txt t false by rw [g7]; exact HNT.out)
            have hal4 : (acc2 ++ [125]).length ≤ 12000000 := by
              rw [g7]; have := HTt2.out; simp only [List.length_append, List.length_cons, List.length_nil]; omega
            have HAL := Lib.hid hal4
            clear g1 g2 g3 g4 g5 g6 g7 HT3 hal4
            go_wp2_with fail
            rw [HSe.out]
            obtain ⟨accn, haccn⟩ : ∃ accn, accn = acc2 ++ [125] := ⟨_, rfl⟩
            rw [← haccn] at HAL HAC ⊢
            clear haccn
            go_roundw
            case rel => exact ⟨i + 1, nx, accn, ((5 : Int) == 1), rfl, by go_num, by omega, HAL.out, ⟨HNX.out.1, HNX.out.2.1, HNX.out.2.2.1, HNX.out.2.2.2.1, HAC.out, HNX.out.2.2.2.2⟩, HBw3⟩
            case measure => simp [RowKit.intOf]; omega
      · exact absurd hmk (by decide)
    · have hie : i = n := by omega
      subst hie
      obtain ⟨hf1, hn1, hs1, hw1, hac0, hfl⟩ := HT.out
      have ht0 := nodesFrom_end hf1
      subst ht0
      have HA := Lib.hid (show acc = txt t false by simpa [txt] using hac0)
      clear hf1 hn1 hs1 hw1 hac0 hfl HT
      go_wp2_with fail
      go_ret
      exact ⟨by rw [← HA.out] <;> rfl, HB.out⟩

set_option maxHeartbeats 8000000 in
set_option maxRecDepth 100000 in
theorem rtext_in (N : Nat) (IH : RtextIH N) (t : T) (v : Value) (pw0 : Bool) (w : World) (hz : sz t ≤ N) (hn : isN t = true) (hw : wt t ≤ 2000000) (hs : SV w v t) (hf : flt t true pw0 0 [] = 0) :
    Calls Tryz.prog 16 #[v, .bool true] w fun e w' => e = .returned (.string ⟨(txt t true).toArray⟩) ∧ Below w.heap.size w w' := by
  obtain ⟨a, n, c, rfl, hnl, hfr⟩ := nodesFrom_start hs
  have hlw := len_wt t
  have hn2 : n ≤ 2000000 := by omega
  have HTot := Lib.hid (show (txt t true).length ≤ 12000000 by have := txt_len t true pw0 0 [] hf; omega)
  have HIH := Lib.hid IH; have HN := Lib.hid hn; have HF := Lib.hid hfr; have HZ := Lib.hid hz; have HW := Lib.hid hw; have HFl := Lib.hid hf
  clear IH hn hfr hz hw hs hlw hnl hf
  go_enter Tryz.func16, Tryz.ntmps16
  go_wp2_with fail
  go_loopw [5, 6] (fun s i wr => ∃ (i' : Nat) (t' : T) (acc : List UInt8) (pw : Bool), s = .string ⟨acc.toArray⟩ ∧ i = .int .i64 i' ∧ i' ≤ n ∧ acc.length ≤ 12000000 ∧ Hid (NodesFrom w a n i' t' ∧ isN t' = true ∧ sz t' ≤ sz t ∧ wt t' ≤ wt t ∧ acc ++ txt t' true = txt t true ∧ flt t' true pw 0 [] = 0) ∧ Hid (Below w.heap.size w wr)) (fun _ i _ => n - (RowKit.intOf i).toNat)
  case atStart => exact ⟨0, t, [], pw0, rfl, rfl, by omega, by simp, ⟨HF.out, HN.out, Nat.le_refl _, Nat.le_refl _, rfl, HFl.out⟩, Below.refl _ _⟩
  case round =>
    obtain ⟨i, t', acc, pw, rfl, rfl, hin, hal, HT, HB⟩ := hrel
    by_cases hlt : i < n
    · obtain ⟨hf1, hn1, hs1, hw1, hac0, hfl⟩ := HT.out
      obtain ⟨k, x, f, cs, nx, b, o, v, rfl, rfl, q0, q1, q2, q3, hsv, hnext⟩ := nodesFrom_next hf1 hlt hn1
      have kc := keepCells HB.out
      have k0 := kc _ _ _ q0; have k1 := kc _ _ _ q1; have k2 := kc _ _ _ q2; have k3 := kc _ _ _ q3
      obtain ⟨hncs, hnnx⟩ := isN_node hn1
      obtain ⟨a3, n3, c3, rfl, hl3, hfr3⟩ := casesFrom_start hsv
      have hxl : x.length ≤ 2000000 := by have h1 := HW.out; simp only [wt] at hw1; omega
      have hxs : (⟨x.toArray⟩ : ByteArray).size ≤ 2000000 := by rw [sizeOf_mk]; exact hxl
      have hcsz : sz cs < N := by have := HZ.out; simp only [sz] at hs1; omega
      have hcsw : wt cs ≤ 2000000 := by have := HW.out; simp only [wt] at hw1; omega
      have hn3 : n3 ≤ 2000000 := by have := len_wt cs; omega
      have hnz : sz nx ≤ sz t := by simp only [sz] at hs1; omega
      have hnw : wt nx ≤ wt t := by simp only [wt] at hw1; omega
      obtain ⟨h1, h2, h3, h4⟩ := Ms.flt_node hfl
      have HNX : Hid (NodesFrom w (some ⟨b, o, none⟩) n (i + 1) nx ∧ isN nx = true ∧ sz nx ≤ sz t ∧ wt nx ≤ wt t ∧ flt nx true (k == 1) 0 [] = 0) := ⟨hnext, hnnx, hnz, hnw, h4⟩
      have HAC0 := Lib.hid hac0; have HCF := Lib.hid hfr3; have HNC := Lib.hid hncs; have HCZ := Lib.hid hcsz; have HCW := Lib.hid hcsw
      have has : (⟨acc.toArray⟩ : ByteArray).size ≤ 12000000 := by rw [sizeOf_mk]; exact hal
      have hkk := fine_kind h1
      clear hf1 hn1 hs1 hw1 hac0 hfl q0 q1 q2 q3 hsv hnext kc hncs hnnx hl3 hfr3 HT hcsz hcsw hnz hnw h4 h1
      go_upto_region 6 with fail
      obtain ⟨cb, hcb⟩ : ∃ cb, cb = wr.heap.size := ⟨_, rfl⟩
      have hb1 : Below w.heap.size w (wr.alloc (.cells #[.int .i64 k, .string ⟨x.toArray⟩, .int .i64 f, .slice a3 n3 c3] 35)) := HB.out.alloc HB.out.size _
      have j0 : (wr.alloc (.cells #[.int .i64 k, .string ⟨x.toArray⟩, .int .i64 f, .slice a3 n3 c3] 35)).cell? ⟨cb, 0, none⟩ = some (.int .i64 k) := by rw [hcb]; simp
      have j1 : (wr.alloc (.cells #[.int .i64 k, .string ⟨x.toArray⟩, .int .i64 f, .slice a3 n3 c3] 35)).cell? ⟨cb, 1, none⟩ = some (.string ⟨x.toArray⟩) := by rw [hcb]; simp
      have j2 : (wr.alloc (.cells #[.int .i64 k, .string ⟨x.toArray⟩, .int .i64 f, .slice a3 n3 c3] 35)).cell? ⟨cb, 2, none⟩ = some (.int .i64 f) := by rw [hcb]; simp
      have j3 : (wr.alloc (.cells #[.int .i64 k, .string ⟨x.toArray⟩, .int .i64 f, .slice a3 n3 c3] 35)).cell? ⟨cb, 3, none⟩ = some (.slice a3 n3 c3) := by rw [hcb]; simp
      have hcs1 : (wr.alloc (.cells #[.int .i64 k, .string ⟨x.toArray⟩, .int .i64 f, .slice a3 n3 c3] 35)).heap.size = cb + 1 := by rw [hcb]; simp
      rw [← hcb]
      generalize wr.alloc (.cells #[.int .i64 k, .string ⟨x.toArray⟩, .int .i64 f, .slice a3 n3 c3] 35) = W1 at hb1 j0 j1 j2 j3 hcs1 ⊢
      have HB1 := Lib.hid hb1
      clear hb1 k0 k1 k2 k3 hcb
      rcases hkk with rfl | rfl | rfl | rfl | rfl | ⟨rfl, hmk⟩
      · obtain ⟨Qt, hQt⟩ : ∃ Qt, Qt = Lx.quote true x := ⟨_, rfl⟩
        have hql : Qt.length ≤ 12000000 := by rw [hQt]; have := (Lx.quote_len true x).2; omega
        have HQ := Lib.hid (show ∀ W, Calls Tryz.prog 32 #[.string ⟨x.toArray⟩, .bool true] W fun e w' => e = .returned (.string ⟨Qt.toArray⟩) ∧ w' = W from fun W => by
          rw [hQt]; exact quoted_ref ⟨x.toArray⟩ true W (by omega))
        have HNT := Lib.hid (show nodeT 1 f x cs true = Qt by rw [nodeT1, hQt])
        clear hQt
        have HSum := Lib.hid (show (⟨acc.toArray⟩ : ByteArray) ++ ⟨Qt.toArray⟩ = ⟨(acc ++ nodeT 1 f x cs true).toArray⟩ by rw [HNT.out]; rw [bytes_app _ Qt (acc) (by simp)])
        have hacl : (acc ++ nodeT 1 f x cs true).length ≤ 12000000 := by
          have h1 := HTot.out
          rw [← HAC0.out, txt_node, ← List.append_assoc, List.length_append] at h1; omega
        have HAL := Lib.hid hacl
        have HAC := Lib.hid (show (acc ++ nodeT 1 f x cs true) ++ txt nx true = txt t true by rw [← HAC0.out, txt_node, List.append_assoc])
        have HCa := Lib.hid (cases_val 1 f x (.slice a3 n3 c3) (.slice none 0 0) rfl)
        clear hacl
        go_wp2_with fail
        refine (HQ.out _).mono ?_
        rintro e W1' ⟨rfl, rfl⟩
        go_wp2_with fail
        rw [HSum.out]
        refine (HCa.out _).mono ?_
        rintro e W2 ⟨rfl, hb2⟩
        have HB2 := Lib.hid (HB1.out.trans (hb2.mono HB1.out.size))
        have e0 := (hb2.cell (p := ⟨cb, 0, none⟩) (by show cb < _; omega)).trans j0
        clear hb2 j0 j1 j2 j3
        obtain ⟨accn, haccn⟩ : ∃ accn, accn = acc ++ nodeT 1 f x cs true := ⟨_, rfl⟩
        rw [← haccn] at HAL HAC ⊢
        clear haccn
        go_wp2_with fail
        go_loopw [5, 10] (fun s k wr2 => s = .string ⟨accn.toArray⟩ ∧ k = .int .i64 0 ∧ wr2 = W2) (fun _ _ _ => 0)
        case atStart => exact ⟨rfl, rfl, rfl⟩
        case round =>
          obtain ⟨rfl, rfl, rfl⟩ := hrel
          go_wp2_with fail
          go_roundw
          case rel => exact ⟨i + 1, nx, accn, ((1 : Int) == 1), rfl, by go_num, by omega, HAL.out, ⟨HNX.out.1, HNX.out.2.1, HNX.out.2.2.1, HNX.out.2.2.2.1, HAC.out, HNX.out.2.2.2.2⟩, HB2⟩
          case measure => simp [RowKit.intOf]; omega
      · have HNT := Lib.hid (nodeT2 f x cs true)
        have HSum := Lib.hid (show (⟨acc.toArray⟩ : ByteArray) ++ (⟨#[123]⟩ : ByteArray) ++ ⟨x.toArray⟩ ++ (⟨#[125]⟩ : ByteArray) = ⟨(acc ++ nodeT 2 f x cs true).toArray⟩ by rw [HNT.out]; rw [bytes_app _ [123] (acc) (by simp), bytes_app _ x (acc ++ [123]) (by simp), bytes_app _ [125] (acc ++ [123] ++ x) (by simp)]; simp)
        have hacl : (acc ++ nodeT 2 f x cs true).length ≤ 12000000 := by
          have h1 := HTot.out
          rw [← HAC0.out, txt_node, ← List.append_assoc, List.length_append] at h1; omega
        have HAL := Lib.hid hacl
        have HAC := Lib.hid (show (acc ++ nodeT 2 f x cs true) ++ txt nx true = txt t true by rw [← HAC0.out, txt_node, List.append_assoc])
        have HCa := Lib.hid (cases_val 2 f x (.slice a3 n3 c3) (.slice none 0 0) rfl)
        clear hacl
        go_wp2_with fail
        rw [HSum.out]
        refine (HCa.out _).mono ?_
        rintro e W2 ⟨rfl, hb2⟩
        have HB2 := Lib.hid (HB1.out.trans (hb2.mono HB1.out.size))
        have e0 := (hb2.cell (p := ⟨cb, 0, none⟩) (by show cb < _; omega)).trans j0
        clear hb2 j0 j1 j2 j3
        obtain ⟨accn, haccn⟩ : ∃ accn, accn = acc ++ nodeT 2 f x cs true := ⟨_, rfl⟩
        rw [← haccn] at HAL HAC ⊢
        clear haccn
        go_wp2_with fail
        go_loopw [5, 10] (fun s k wr2 => s = .string ⟨accn.toArray⟩ ∧ k = .int .i64 0 ∧ wr2 = W2) (fun _ _ _ => 0)
        case atStart => exact ⟨rfl, rfl, rfl⟩
        case round =>
          obtain ⟨rfl, rfl, rfl⟩ := hrel
          go_wp2_with fail
          go_roundw
          case rel => exact ⟨i + 1, nx, accn, ((2 : Int) == 1), rfl, by go_num, by omega, HAL.out, ⟨HNX.out.1, HNX.out.2.1, HNX.out.2.2.1, HNX.out.2.2.2.1, HAC.out, HNX.out.2.2.2.2⟩, HB2⟩
          case measure => simp [RowKit.intOf]; omega
      · have HNT := Lib.hid (nodeT3 f x cs true)
        have HSum := Lib.hid (show (⟨acc.toArray⟩ : ByteArray) ++ (⟨#[123]⟩ : ByteArray) ++ ⟨x.toArray⟩ ++ (⟨#[44, 32, 110, 117, 109, 98, 101, 114, 125]⟩ : ByteArray) = ⟨(acc ++ nodeT 3 f x cs true).toArray⟩ by rw [HNT.out]; rw [bytes_app _ [123] (acc) (by simp), bytes_app _ x (acc ++ [123]) (by simp), bytes_app _ [44, 32, 110, 117, 109, 98, 101, 114, 125] (acc ++ [123] ++ x) (by simp)]; simp)
        have hacl : (acc ++ nodeT 3 f x cs true).length ≤ 12000000 := by
          have h1 := HTot.out
          rw [← HAC0.out, txt_node, ← List.append_assoc, List.length_append] at h1; omega
        have HAL := Lib.hid hacl
        have HAC := Lib.hid (show (acc ++ nodeT 3 f x cs true) ++ txt nx true = txt t true by rw [← HAC0.out, txt_node, List.append_assoc])
        have HCa := Lib.hid (cases_val 3 f x (.slice a3 n3 c3) (.slice none 0 0) rfl)
        clear hacl
        go_wp2_with fail
        rw [HSum.out]
        refine (HCa.out _).mono ?_
        rintro e W2 ⟨rfl, hb2⟩
        have HB2 := Lib.hid (HB1.out.trans (hb2.mono HB1.out.size))
        have e0 := (hb2.cell (p := ⟨cb, 0, none⟩) (by show cb < _; omega)).trans j0
        clear hb2 j0 j1 j2 j3
        obtain ⟨accn, haccn⟩ : ∃ accn, accn = acc ++ nodeT 3 f x cs true := ⟨_, rfl⟩
        rw [← haccn] at HAL HAC ⊢
        clear haccn
        go_wp2_with fail
        go_loopw [5, 10] (fun s k wr2 => s = .string ⟨accn.toArray⟩ ∧ k = .int .i64 0 ∧ wr2 = W2) (fun _ _ _ => 0)
        case atStart => exact ⟨rfl, rfl, rfl⟩
        case round =>
          obtain ⟨rfl, rfl, rfl⟩ := hrel
          go_wp2_with fail
          go_roundw
          case rel => exact ⟨i + 1, nx, accn, ((3 : Int) == 1), rfl, by go_num, by omega, HAL.out, ⟨HNX.out.1, HNX.out.2.1, HNX.out.2.2.1, HNX.out.2.2.2.1, HAC.out, HNX.out.2.2.2.2⟩, HB2⟩
          case measure => simp [RowKit.intOf]; omega
      · have HFc := Lib.hid (show flt cs true false 4 [] = 0 from by simpa using h3 rfl)
        have hf9 : 0 ≤ f ∧ f ≤ 9 := by omega
        clear h3
        by_cases hf0 : f = 0
        · subst hf0
          obtain ⟨Hd, hHd⟩ : ∃ Hd : List UInt8, Hd = [123] ++ x ++ [44, 32, 112, 108, 117, 114, 97, 108, 44] := ⟨_, rfl⟩
          have hNT : nodeT 4 0 x cs true = Hd ++ txt cs true ++ [125] := by rw [hHd]; exact nodeT40 x cs true
          have hHl : Hd.length ≤ 2000100 := by rw [hHd]; simp; omega
          have hacT : (acc ++ Hd ++ txt cs true ++ [125]) ++ txt nx true = txt t true := by rw [← HAC0.out, txt_node, hNT]; simp
          have htot : acc.length + Hd.length + (txt cs true).length + 1 ≤ 12000000 := by
            have h1 := HTot.out
            rw [← hacT] at h1
            simp only [List.length_append, List.length_cons, List.length_nil] at h1; omega
          have HSum := Lib.hid (show (⟨acc.toArray⟩ : ByteArray) ++ (⟨#[123]⟩ : ByteArray) ++ ⟨x.toArray⟩ ++ (⟨#[44, 32, 112, 108, 117, 114, 97, 108, 44]⟩ : ByteArray) = ⟨(acc ++ Hd).toArray⟩ by rw [hHd]; rw [bytes_app _ [123] (acc) (by simp), bytes_app _ x (acc ++ [123]) (by simp), bytes_app _ [44, 32, 112, 108, 117, 114, 97, 108, 44] (acc ++ [123] ++ x) (by simp)]; simp)
          have HCa := Lib.hid (cases_val 4 0 x (.slice a3 n3 c3) (.slice a3 n3 c3) rfl)
          have HNT := Lib.hid hacT; have HTt := Lib.hid htot
          have hacl : (acc ++ Hd).length ≤ 12000000 := by rw [List.length_append]; omega
          clear hacT hNT hHd htot
          go_wp2_with fail
          rw [HSum.out]
          refine (HCa.out _).mono ?_
          rintro e W2 ⟨rfl, hb2⟩
          have HB2 := Lib.hid (HB1.out.trans (hb2.mono HB1.out.size))
          have hcb2 : cb < W2.heap.size := by have := hb2.size; omega
          have e0 := (hb2.cell (p := ⟨cb, 0, none⟩) (by show cb < _; omega)).trans j0
          clear hb2 j0 j1 j2 j3 HSum HCa
          obtain ⟨acc1, hacc1⟩ : ∃ acc1, acc1 = acc ++ Hd := ⟨_, rfl⟩
          rw [← hacc1] at HNT hacl ⊢
          have hacc1l : acc1.length = acc.length + Hd.length := by rw [hacc1, List.length_append]
          clear hacc1
          have HTt2 := Lib.hid (show acc1.length + (txt cs true).length + 1 ≤ 12000000 by have := HTt.out; omega)
          clear hacc1l HTt
          go_wp2_with fail
          go_loopw [5, 10] (fun s k wr2 => ∃ (j' : Nat) (t3 : T) (acc2 : List UInt8) (seen : List (List UInt8)), s = .string ⟨acc2.toArray⟩ ∧ k = .int .i64 j' ∧ j' ≤ n3 ∧ acc2.length ≤ 12000000 ∧ Hid (CasesFrom w a3 n3 j' t3 ∧ isN.isC t3 = true ∧ sz t3 ≤ sz cs ∧ wt t3 ≤ wt cs ∧ acc2 ++ txt t3 true = acc1 ++ txt cs true ∧ flt t3 true false 4 seen = 0) ∧ Hid (Below W2.heap.size W2 wr2)) (fun _ k _ => n3 - (RowKit.intOf k).toNat)
          case atStart => exact ⟨0, cs, acc1, [], rfl, rfl, by omega, hacl, ⟨HCF.out, HNC.out, Nat.le_refl _, Nat.le_refl _, rfl, HFc.out⟩, Below.refl _ _⟩
          case round =>
            obtain ⟨j, t3, acc2, seen, rfl, rfl, hjn, hal2, HT3, HB3⟩ := hrel
            have HBw3 : Hid (Below w.heap.size w wr) := HB2.out.trans (HB3.out.mono HB2.out.size)
            have f0 := (HB3.out.cell (p := ⟨cb, 0, none⟩) hcb2).trans e0
            by_cases hlt2 : j < n3
            · obtain ⟨g1, g2, g3, g4, g5, g6⟩ := HT3.out
              obtain ⟨key, body, nx3, b2, o2, v3, rfl, rfl, p0, p1, hsv3, hnext3⟩ := casesFrom_next g1 hlt2 g2
              obtain ⟨va, vn, vcap, rfl⟩ : ∃ a n c, v3 = .slice a n c := by
                rcases hsv3 with ⟨⟨_, h⟩, _⟩ | ⟨b', o', n', c', h, _⟩
                · exact ⟨_, _, _, h⟩
                · exact ⟨_, _, _, h⟩
              obtain ⟨hnb, hncs2⟩ := isC_case g2
              obtain ⟨_, _, hfb, hfx⟩ := Ms.flt_case g6
              have kc := keepCells HBw3.out
              have t0 := cell_regrown (kc _ _ _ p0); have t1 := cell_regrown (kc _ _ _ p1)
              have hbz : sz body < N := by have h1 := HCZ.out; simp only [sz] at g3; omega
              have hbw : wt body ≤ 2000000 := by have h1 := HCW.out; simp only [wt] at g4; omega
              have hkl : key.length ≤ 2000000 := by have h1 := HCW.out; simp only [wt] at g4; omega
              have hgz : sz nx3 ≤ sz cs := by simp only [sz] at g3; omega
              have hgw : wt nx3 ≤ wt cs := by simp only [wt] at g4; omega
              rw [txt_case, ← List.append_assoc] at g5
              have hal3 : (acc2 ++ caseT key body true).length ≤ 12000000 := by
                have h1 := HTt2.out
                have h2 := congrArg List.length g5
                simp only [List.length_append] at h2 ⊢; omega
              obtain ⟨tb, htb⟩ : ∃ tb, tb = txt body true := ⟨_, rfl⟩
              have D1 := Lib.hid (show ∀ dr os, Calls Tryz.prog 16 #[.slice va vn vcap, .bool true] (grow (redrawn wr dr) os) (fun e w' => e = .returned (.string ⟨tb.toArray⟩) ∧ ∃ p : Regrown, w' = grow (redrawn wr p.d) p.os) from
                fun dr os => Calls.regrown_of (by
                  have h := HIH.out body (.slice va vn vcap) true false (grow (redrawn wr dr) os) hbz hnb hbw (hsv3.below (HBw3.out.trans ((below_regrown wr dr os).mono HBw3.out.size))) hfb
                  rw [← htb] at h; exact h))
              have hct : caseT key body true = [32] ++ key ++ [32, 123] ++ tb ++ [125] := by rw [htb]; rfl
              have hl3 : acc2.length + 1 + key.length + 2 + tb.length + 1 ≤ 12000000 := by
                rw [hct] at hal3; simp only [List.length_append, List.length_cons, List.length_nil] at hal3; omega
              have n1 : ¬ 9223372036854775807 < acc2.length + 1 := by omega
              have n2 : ¬ 9223372036854775807 < acc2.length + 1 + key.length := by omega
              have n3' : ¬ 9223372036854775807 < acc2.length + 1 + key.length + 2 := by omega
              have n4 : ¬ 9223372036854775807 < acc2.length + 1 + key.length + 2 + tb.length := by omega
              have n5 : ¬ 9223372036854775807 < acc2.length + 1 + key.length + 2 + tb.length + 1 := by omega
              have HSe := Lib.hid (show (⟨acc2.toArray⟩ : ByteArray) ++ (⟨#[32]⟩ : ByteArray) ++ ⟨key.toArray⟩ ++ (⟨#[32, 123]⟩ : ByteArray) ++ ⟨tb.toArray⟩ ++ (⟨#[125]⟩ : ByteArray) = ⟨(acc2 ++ caseT key body true).toArray⟩ by
                rw [hct, bytes_app _ [32] acc2 (by simp), bytes_app _ key (acc2 ++ [32]) (by simp), bytes_app _ [32, 123] (acc2 ++ [32] ++ key) (by simp), bytes_app _ tb (acc2 ++ [32] ++ key ++ [32, 123]) (by simp), bytes_app _ [125] (acc2 ++ [32] ++ key ++ [32, 123] ++ tb) (by simp)]; simp)
              have HNX3 : Hid (CasesFrom w (some ⟨b2, o2, none⟩) n3 (j + 1) nx3 ∧ isN.isC nx3 = true ∧ sz nx3 ≤ sz cs ∧ wt nx3 ≤ wt cs ∧ (acc2 ++ caseT key body true) ++ txt nx3 true = acc1 ++ txt cs true ∧ flt nx3 true false 4 (seen ++ [key]) = 0) := ⟨hnext3, hncs2, hgz, hgw, g5, hfx⟩
              have HAL3 := Lib.hid hal3
              clear g1 g2 g3 g4 g5 g6 p0 p1 hsv3 hnext3 kc hbz hbw hgz hgw hnb hncs2 HT3 hfb hfx htb hct hal3 hl3 f0
              go_wp2_with fail
              refine wp_region_quiet_below (by kernel_rfl) (by kernel_rfl) ?_
              repeat (quiet_step (first | with_reducible exact D1.out _ _))
              refine wpQuiet_nil ?_
              intro _ hw'
              obtain ⟨⟨dq, osq⟩, hw''⟩ := hw'
              subst hw''
              have HB4 := Lib.hid (HB3.out.trans ((below_regrown wr dq osq).mono HB3.out.size))
              clear t0 t1 D1 n1 n2 n3' n4 n5
              simp only []
              generalize grow (redrawn wr dq) osq = W4 at HB4 ⊢
              go_wp2_with fail
              go_roundw
              case rel => exact ⟨j + 1, nx3, acc2 ++ caseT key body true, seen ++ [key], by rw [← HSe.out], by go_num, by omega, HAL3.out, HNX3.out, HB4⟩
              case measure => simp [RowKit.intOf]; omega
            · have hje : j = n3 := by omega
              subst hje
              obtain ⟨g1, g2, g3, g4, g5, g6⟩ := HT3.out
              have ht3 := casesFrom_end g1
              subst ht3
              have g7 : acc2 = acc1 ++ txt cs true := by simpa [txt] using g5
              have HSe := Lib.hid (show (⟨acc2.toArray⟩ : ByteArray) ++ (⟨#[125]⟩ : ByteArray) = ⟨(acc2 ++ [125]).toArray⟩ by rw [bytes_app _ [125] acc2 (by simp)])
              have HAC := Lib.hid (show (acc2 ++ [125]) ++ txt nx true = txt t true by rw [g7]; exact HNT.out)
              have hal4 : (acc2 ++ [125]).length ≤ 12000000 := by
                rw [g7]; have := HTt2.out; simp only [List.length_append, List.length_cons, List.length_nil]; omega
              have HAL := Lib.hid hal4
              clear g1 g2 g3 g4 g5 g6 g7 HT3 hal4
              go_wp2_with fail
              rw [HSe.out]
              obtain ⟨accn, haccn⟩ : ∃ accn, accn = acc2 ++ [125] := ⟨_, rfl⟩
              rw [← haccn] at HAL HAC ⊢
              clear haccn
              go_roundw
              case rel => exact ⟨i + 1, nx, accn, ((4 : Int) == 1), rfl, by go_num, by omega, HAL.out, ⟨HNX.out.1, HNX.out.2.1, HNX.out.2.2.1, HNX.out.2.2.2.1, HAC.out, HNX.out.2.2.2.2⟩, HBw3⟩
              case measure => simp [RowKit.intOf]; omega
        · obtain ⟨d, rfl⟩ : ∃ d : Nat, f = d := ⟨f.toNat, by omega⟩
          have hd1 : 1 ≤ d := by omega
          have hd9 : d ≤ 9 := by omega
          clear hf0 hf9
          obtain ⟨Hd, hHd⟩ : ∃ Hd : List UInt8, Hd = [123] ++ x ++ [44, 32, 112, 108, 117, 114, 97, 108, 44] ++ ([32, 111, 102, 102, 115, 101, 116, 58] ++ Lib.decDigits d) := ⟨_, rfl⟩
          have hNT : nodeT 4 (d : Int) x cs true = Hd ++ txt cs true ++ [125] := by rw [hHd]; exact nodeT4p x cs true d hd1
          have hHl : Hd.length ≤ 2000100 := by rw [hHd]; simp; have := dec_len 1 d (by omega); omega
          have hacT : (acc ++ Hd ++ txt cs true ++ [125]) ++ txt nx true = txt t true := by rw [← HAC0.out, txt_node, hNT]; simp
          have htot : acc.length + Hd.length + (txt cs true).length + 1 ≤ 12000000 := by
            have h1 := HTot.out
            rw [← hacT] at h1
            simp only [List.length_append, List.length_cons, List.length_nil] at h1; omega
          obtain ⟨Ah, hAh⟩ : ∃ Ah : List UInt8, Ah = acc ++ [123] ++ x ++ [44, 32, 112, 108, 117, 114, 97, 108, 44] := ⟨_, rfl⟩
          have hAl : Ah.length ≤ 12000000 := by
            have h1 : Hd.length = 1 + x.length + 9 + (8 + (Lib.decDigits d).length) := by rw [hHd]; simp; omega
            rw [hAh]; simp only [List.length_append, List.length_cons, List.length_nil]; omega
          have HSum := Lib.hid (show (⟨acc.toArray⟩ : ByteArray) ++ (⟨#[123]⟩ : ByteArray) ++ ⟨x.toArray⟩ ++ (⟨#[44, 32, 112, 108, 117, 114, 97, 108, 44]⟩ : ByteArray) = ⟨Ah.toArray⟩ by rw [hAh]; rw [bytes_app _ [123] (acc) (by simp), bytes_app _ x (acc ++ [123]) (by simp), bytes_app _ [44, 32, 112, 108, 117, 114, 97, 108, 44] (acc ++ [123] ++ x) (by simp)])
          have HSum2 := Lib.hid (show (⟨Ah.toArray⟩ : ByteArray) ++ (⟨#[32, 111, 102, 102, 115, 101, 116, 58]⟩ : ByteArray) ++ ⟨(Lib.decDigits d).toArray⟩ = ⟨(acc ++ Hd).toArray⟩ by rw [bytes_app _ [32, 111, 102, 102, 115, 101, 116, 58] Ah (by simp), bytes_app _ (Lib.decDigits d) (Ah ++ [32, 111, 102, 102, 115, 101, 116, 58]) (by simp), hAh, hHd]; simp)
          have HDg := Lib.hid (show ∀ W, Calls Tryz.prog 33 #[.int .i64 d, .int .i64 0] W fun e w' => e = .returned (.string ⟨(Lib.decDigits d).toArray⟩) ∧ Below W.heap.size W w' from fun W => by
            have h := rdigits_any 0 d 0 W (by omega) (by omega) (by decide)
            rw [show padTo 0 (d : Int) = Lib.decDigits d by rw [padTo_nat]; simp] at h; exact h)
          have hdl := dec_len 1 d (by omega)
          clear hAh
          have HCa := Lib.hid (cases_val 4 (d : Int) x (.slice a3 n3 c3) (.slice a3 n3 c3) rfl)
          have HNT := Lib.hid hacT; have HTt := Lib.hid htot
          have hacl : (acc ++ Hd).length ≤ 12000000 := by rw [List.length_append]; omega
          clear hacT hNT hHd htot
          go_upto_if 70 with fail
          rw [HSum.out]
          go_wp2_with fail
          refine (HDg.out _).mono ?_
          rintro e W1' ⟨rfl, hb2⟩
          have e0 := (hb2.cell (p := ⟨cb, 0, none⟩) (by show cb < _; omega)).trans j0
          have e1 := (hb2.cell (p := ⟨cb, 1, none⟩) (by show cb < _; omega)).trans j1
          have e2 := (hb2.cell (p := ⟨cb, 2, none⟩) (by show cb < _; omega)).trans j2
          have e3 := (hb2.cell (p := ⟨cb, 3, none⟩) (by show cb < _; omega)).trans j3
          have HB1' := Lib.hid (HB1.out.trans (hb2.mono HB1.out.size))
          have hcs2 : cb < W1'.heap.size := by have := hb2.size; omega
          clear hb2 j0 j1 j2 j3 HB1
          have HB1 := HB1'; have j0 := e0; have j1 := e1; have j2 := e2; have j3 := e3
          clear HB1' e0 e1 e2 e3
          go_wp2_with fail
          rw [HSum2.out]
          refine (HCa.out _).mono ?_
          rintro e W2 ⟨rfl, hb2⟩
          have HB2 := Lib.hid (HB1.out.trans (hb2.mono HB1.out.size))
          have hcb2 : cb < W2.heap.size := by have := hb2.size; omega
          have e0 := (hb2.cell (p := ⟨cb, 0, none⟩) (by show cb < _; omega)).trans j0
          clear hb2 j0 j1 j2 j3 HSum HCa
          obtain ⟨acc1, hacc1⟩ : ∃ acc1, acc1 = acc ++ Hd := ⟨_, rfl⟩
          rw [← hacc1] at HNT hacl ⊢
          have hacc1l : acc1.length = acc.length + Hd.length := by rw [hacc1, List.length_append]
          clear hacc1
          have HTt2 := Lib.hid (show acc1.length + (txt cs true).length + 1 ≤ 12000000 by have := HTt.out; omega)
          clear hacc1l HTt
          go_wp2_with fail
          go_loopw [5, 10] (fun s k wr2 => ∃ (j' : Nat) (t3 : T) (acc2 : List UInt8) (seen : List (List UInt8)), s = .string ⟨acc2.toArray⟩ ∧ k = .int .i64 j' ∧ j' ≤ n3 ∧ acc2.length ≤ 12000000 ∧ Hid (CasesFrom w a3 n3 j' t3 ∧ isN.isC t3 = true ∧ sz t3 ≤ sz cs ∧ wt t3 ≤ wt cs ∧ acc2 ++ txt t3 true = acc1 ++ txt cs true ∧ flt t3 true false 4 seen = 0) ∧ Hid (Below W2.heap.size W2 wr2)) (fun _ k _ => n3 - (RowKit.intOf k).toNat)
          case atStart => exact ⟨0, cs, acc1, [], rfl, rfl, by omega, hacl, ⟨HCF.out, HNC.out, Nat.le_refl _, Nat.le_refl _, rfl, HFc.out⟩, Below.refl _ _⟩
          case round =>
            obtain ⟨j, t3, acc2, seen, rfl, rfl, hjn, hal2, HT3, HB3⟩ := hrel
            have HBw3 : Hid (Below w.heap.size w wr) := HB2.out.trans (HB3.out.mono HB2.out.size)
            have f0 := (HB3.out.cell (p := ⟨cb, 0, none⟩) hcb2).trans e0
            by_cases hlt2 : j < n3
            · obtain ⟨g1, g2, g3, g4, g5, g6⟩ := HT3.out
              obtain ⟨key, body, nx3, b2, o2, v3, rfl, rfl, p0, p1, hsv3, hnext3⟩ := casesFrom_next g1 hlt2 g2
              obtain ⟨va, vn, vcap, rfl⟩ : ∃ a n c, v3 = .slice a n c := by
                rcases hsv3 with ⟨⟨_, h⟩, _⟩ | ⟨b', o', n', c', h, _⟩
                · exact ⟨_, _, _, h⟩
                · exact ⟨_, _, _, h⟩
              obtain ⟨hnb, hncs2⟩ := isC_case g2
              obtain ⟨_, _, hfb, hfx⟩ := Ms.flt_case g6
              have kc := keepCells HBw3.out
              have t0 := cell_regrown (kc _ _ _ p0); have t1 := cell_regrown (kc _ _ _ p1)
              have hbz : sz body < N := by have h1 := HCZ.out; simp only [sz] at g3; omega
              have hbw : wt body ≤ 2000000 := by have h1 := HCW.out; simp only [wt] at g4; omega
              have hkl : key.length ≤ 2000000 := by have h1 := HCW.out; simp only [wt] at g4; omega
              have hgz : sz nx3 ≤ sz cs := by simp only [sz] at g3; omega
              have hgw : wt nx3 ≤ wt cs := by simp only [wt] at g4; omega
              rw [txt_case, ← List.append_assoc] at g5
              have hal3 : (acc2 ++ caseT key body true).length ≤ 12000000 := by
                have h1 := HTt2.out
                have h2 := congrArg List.length g5
                simp only [List.length_append] at h2 ⊢; omega
              obtain ⟨tb, htb⟩ : ∃ tb, tb = txt body true := ⟨_, rfl⟩
              have D1 := Lib.hid (show ∀ dr os, Calls Tryz.prog 16 #[.slice va vn vcap, .bool true] (grow (redrawn wr dr) os) (fun e w' => e = .returned (.string ⟨tb.toArray⟩) ∧ ∃ p : Regrown, w' = grow (redrawn wr p.d) p.os) from
                fun dr os => Calls.regrown_of (by
                  have h := HIH.out body (.slice va vn vcap) true false (grow (redrawn wr dr) os) hbz hnb hbw (hsv3.below (HBw3.out.trans ((below_regrown wr dr os).mono HBw3.out.size))) hfb
                  rw [← htb] at h; exact h))
              have hct : caseT key body true = [32] ++ key ++ [32, 123] ++ tb ++ [125] := by rw [htb]; rfl
              have hl3 : acc2.length + 1 + key.length + 2 + tb.length + 1 ≤ 12000000 := by
                rw [hct] at hal3; simp only [List.length_append, List.length_cons, List.length_nil] at hal3; omega
              have n1 : ¬ 9223372036854775807 < acc2.length + 1 := by omega
              have n2 : ¬ 9223372036854775807 < acc2.length + 1 + key.length := by omega
              have n3' : ¬ 9223372036854775807 < acc2.length + 1 + key.length + 2 := by omega
              have n4 : ¬ 9223372036854775807 < acc2.length + 1 + key.length + 2 + tb.length := by omega
              have n5 : ¬ 9223372036854775807 < acc2.length + 1 + key.length + 2 + tb.length + 1 := by omega
              have HSe := Lib.hid (show (⟨acc2.toArray⟩ : ByteArray) ++ (⟨#[32]⟩ : ByteArray) ++ ⟨key.toArray⟩ ++ (⟨#[32, 123]⟩ : ByteArray) ++ ⟨tb.toArray⟩ ++ (⟨#[125]⟩ : ByteArray) = ⟨(acc2 ++ caseT key body true).toArray⟩ by
                rw [hct, bytes_app _ [32] acc2 (by simp), bytes_app _ key (acc2 ++ [32]) (by simp), bytes_app _ [32, 123] (acc2 ++ [32] ++ key) (by simp), bytes_app _ tb (acc2 ++ [32] ++ key ++ [32, 123]) (by simp), bytes_app _ [125] (acc2 ++ [32] ++ key ++ [32, 123] ++ tb) (by simp)]; simp)
              have HNX3 : Hid (CasesFrom w (some ⟨b2, o2, none⟩) n3 (j + 1) nx3 ∧ isN.isC nx3 = true ∧ sz nx3 ≤ sz cs ∧ wt nx3 ≤ wt cs ∧ (acc2 ++ caseT key body true) ++ txt nx3 true = acc1 ++ txt cs true ∧ flt nx3 true false 4 (seen ++ [key]) = 0) := ⟨hnext3, hncs2, hgz, hgw, g5, hfx⟩
              have HAL3 := Lib.hid hal3
              clear g1 g2 g3 g4 g5 g6 p0 p1 hsv3 hnext3 kc hbz hbw hgz hgw hnb hncs2 HT3 hfb hfx htb hct hal3 hl3 f0
              go_wp2_with fail
              refine wp_region_quiet_below (by kernel_rfl) (by kernel_rfl) ?_
              repeat (quiet_step (first | with_reducible exact D1.out _ _))
              refine wpQuiet_nil ?_
              intro _ hw'
              obtain ⟨⟨dq, osq⟩, hw''⟩ := hw'
              subst hw''
              have HB4 := Lib.hid (HB3.out.trans ((below_regrown wr dq osq).mono HB3.out.size))
              clear t0 t1 D1 n1 n2 n3' n4 n5
              simp only []
              generalize grow (redrawn wr dq) osq = W4 at HB4 ⊢
              go_wp2_with fail
              go_roundw
              case rel => exact ⟨j + 1, nx3, acc2 ++ caseT key body true, seen ++ [key], by rw [← HSe.out], by go_num, by omega, HAL3.out, HNX3.out, HB4⟩
              case measure => simp [RowKit.intOf]; omega
            · have hje : j = n3 := by omega
              subst hje
              obtain ⟨g1, g2, g3, g4, g5, g6⟩ := HT3.out
              have ht3 := casesFrom_end g1
              subst ht3
              have g7 : acc2 = acc1 ++ txt cs true := by simpa [txt] using g5
              have HSe := Lib.hid (show (⟨acc2.toArray⟩ : ByteArray) ++ (⟨#[125]⟩ : ByteArray) = ⟨(acc2 ++ [125]).toArray⟩ by rw [bytes_app _ [125] acc2 (by simp)])
              have HAC := Lib.hid (show (acc2 ++ [125]) ++ txt nx true = txt t true by rw [g7]; exact HNT.out)
              have hal4 : (acc2 ++ [125]).length ≤ 12000000 := by
                rw [g7]; have := HTt2.out; simp only [List.length_append, List.length_cons, List.length_nil]; omega
              have HAL := Lib.hid hal4
              clear g1 g2 g3 g4 g5 g6 g7 HT3 hal4
              go_wp2_with fail
              rw [HSe.out]
              obtain ⟨accn, haccn⟩ : ∃ accn, accn = acc2 ++ [125] := ⟨_, rfl⟩
              rw [← haccn] at HAL HAC ⊢
              clear haccn
              go_roundw
              case rel => exact ⟨i + 1, nx, accn, ((4 : Int) == 1), rfl, by go_num, by omega, HAL.out, ⟨HNX.out.1, HNX.out.2.1, HNX.out.2.2.1, HNX.out.2.2.2.1, HAC.out, HNX.out.2.2.2.2⟩, HBw3⟩
              case measure => simp [RowKit.intOf]; omega
      · have HFc := Lib.hid (show flt cs true false 5 [] = 0 from by simpa using h3 rfl)
        clear h3
        obtain ⟨Hd, hHd⟩ : ∃ Hd : List UInt8, Hd = [123] ++ x ++ [44, 32, 115, 101, 108, 101, 99, 116, 44] := ⟨_, rfl⟩
        have hNT : nodeT 5 f x cs true = Hd ++ txt cs true ++ [125] := by rw [hHd]; exact nodeT5 f x cs true
        have hHl : Hd.length ≤ 2000100 := by rw [hHd]; simp; omega
        have hacT : (acc ++ Hd ++ txt cs true ++ [125]) ++ txt nx true = txt t true := by rw [← HAC0.out, txt_node, hNT]; simp
        have htot : acc.length + Hd.length + (txt cs true).length + 1 ≤ 12000000 := by
          have h1 := HTot.out
          rw [← hacT] at h1
          simp only [List.length_append, List.length_cons, List.length_nil] at h1; omega
        have HSum := Lib.hid (show (⟨acc.toArray⟩ : ByteArray) ++ (⟨#[123]⟩ : ByteArray) ++ ⟨x.toArray⟩ ++ (⟨#[44, 32, 115, 101, 108, 101, 99, 116, 44]⟩ : ByteArray) = ⟨(acc ++ Hd).toArray⟩ by rw [hHd]; rw [bytes_app _ [123] (acc) (by simp), bytes_app _ x (acc ++ [123]) (by simp), bytes_app _ [44, 32, 115, 101, 108, 101, 99, 116, 44] (acc ++ [123] ++ x) (by simp)]; simp)
        have HCa := Lib.hid (cases_val 5 f x (.slice a3 n3 c3) (.slice a3 n3 c3) rfl)
        have HNT := Lib.hid hacT; have HTt := Lib.hid htot
        have hacl : (acc ++ Hd).length ≤ 12000000 := by rw [List.length_append]; omega
        clear hacT hNT hHd htot
        go_wp2_with fail
        rw [HSum.out]
        refine (HCa.out _).mono ?_
        rintro e W2 ⟨rfl, hb2⟩
        have HB2 := Lib.hid (HB1.out.trans (hb2.mono HB1.out.size))
        have hcb2 : cb < W2.heap.size := by have := hb2.size; omega
        have e0 := (hb2.cell (p := ⟨cb, 0, none⟩) (by show cb < _; omega)).trans j0
        clear hb2 j0 j1 j2 j3 HSum HCa
        obtain ⟨acc1, hacc1⟩ : ∃ acc1, acc1 = acc ++ Hd := ⟨_, rfl⟩
        rw [← hacc1] at HNT hacl ⊢
        have hacc1l : acc1.length = acc.length + Hd.length := by rw [hacc1, List.length_append]
        clear hacc1
        have HTt2 := Lib.hid (show acc1.length + (txt cs true).length + 1 ≤ 12000000 by have := HTt.out; omega)
        clear hacc1l HTt
        go_wp2_with fail
        go_loopw [5, 10] (fun s k wr2 => ∃ (j' : Nat) (t3 : T) (acc2 : List UInt8) (seen : List (List UInt8)), s = .string ⟨acc2.toArray⟩ ∧ k = .int .i64 j' ∧ j' ≤ n3 ∧ acc2.length ≤ 12000000 ∧ Hid (CasesFrom w a3 n3 j' t3 ∧ isN.isC t3 = true ∧ sz t3 ≤ sz cs ∧ wt t3 ≤ wt cs ∧ acc2 ++ txt t3 true = acc1 ++ txt cs true ∧ flt t3 true false 5 seen = 0) ∧ Hid (Below W2.heap.size W2 wr2)) (fun _ k _ => n3 - (RowKit.intOf k).toNat)
        case atStart => exact ⟨0, cs, acc1, [], rfl, rfl, by omega, hacl, ⟨HCF.out, HNC.out, Nat.le_refl _, Nat.le_refl _, rfl, HFc.out⟩, Below.refl _ _⟩
        case round =>
          obtain ⟨j, t3, acc2, seen, rfl, rfl, hjn, hal2, HT3, HB3⟩ := hrel
          have HBw3 : Hid (Below w.heap.size w wr) := HB2.out.trans (HB3.out.mono HB2.out.size)
          have f0 := (HB3.out.cell (p := ⟨cb, 0, none⟩) hcb2).trans e0
          by_cases hlt2 : j < n3
          · obtain ⟨g1, g2, g3, g4, g5, g6⟩ := HT3.out
            obtain ⟨key, body, nx3, b2, o2, v3, rfl, rfl, p0, p1, hsv3, hnext3⟩ := casesFrom_next g1 hlt2 g2
            obtain ⟨va, vn, vcap, rfl⟩ : ∃ a n c, v3 = .slice a n c := by
              rcases hsv3 with ⟨⟨_, h⟩, _⟩ | ⟨b', o', n', c', h, _⟩
              · exact ⟨_, _, _, h⟩
              · exact ⟨_, _, _, h⟩
            obtain ⟨hnb, hncs2⟩ := isC_case g2
            obtain ⟨_, _, hfb, hfx⟩ := Ms.flt_case g6
            have kc := keepCells HBw3.out
            have t0 := cell_regrown (kc _ _ _ p0); have t1 := cell_regrown (kc _ _ _ p1)
            have hbz : sz body < N := by have h1 := HCZ.out; simp only [sz] at g3; omega
            have hbw : wt body ≤ 2000000 := by have h1 := HCW.out; simp only [wt] at g4; omega
            have hkl : key.length ≤ 2000000 := by have h1 := HCW.out; simp only [wt] at g4; omega
            have hgz : sz nx3 ≤ sz cs := by simp only [sz] at g3; omega
            have hgw : wt nx3 ≤ wt cs := by simp only [wt] at g4; omega
            rw [txt_case, ← List.append_assoc] at g5
            have hal3 : (acc2 ++ caseT key body true).length ≤ 12000000 := by
              have h1 := HTt2.out
              have h2 := congrArg List.length g5
              simp only [List.length_append] at h2 ⊢; omega
            obtain ⟨tb, htb⟩ : ∃ tb, tb = txt body true := ⟨_, rfl⟩
            have D1 := Lib.hid (show ∀ dr os, Calls Tryz.prog 16 #[.slice va vn vcap, .bool true] (grow (redrawn wr dr) os) (fun e w' => e = .returned (.string ⟨tb.toArray⟩) ∧ ∃ p : Regrown, w' = grow (redrawn wr p.d) p.os) from
              fun dr os => Calls.regrown_of (by
                have h := HIH.out body (.slice va vn vcap) true false (grow (redrawn wr dr) os) hbz hnb hbw (hsv3.below (HBw3.out.trans ((below_regrown wr dr os).mono HBw3.out.size))) hfb
                rw [← htb] at h; exact h))
            have hct : caseT key body true = [32] ++ key ++ [32, 123] ++ tb ++ [125] := by rw [htb]; rfl
            have hl3 : acc2.length + 1 + key.length + 2 + tb.length + 1 ≤ 12000000 := by
              rw [hct] at hal3; simp only [List.length_append, List.length_cons, List.length_nil] at hal3; omega
            have n1 : ¬ 9223372036854775807 < acc2.length + 1 := by omega
            have n2 : ¬ 9223372036854775807 < acc2.length + 1 + key.length := by omega
            have n3' : ¬ 9223372036854775807 < acc2.length + 1 + key.length + 2 := by omega
            have n4 : ¬ 9223372036854775807 < acc2.length + 1 + key.length + 2 + tb.length := by omega
            have n5 : ¬ 9223372036854775807 < acc2.length + 1 + key.length + 2 + tb.length + 1 := by omega
            have HSe := Lib.hid (show (⟨acc2.toArray⟩ : ByteArray) ++ (⟨#[32]⟩ : ByteArray) ++ ⟨key.toArray⟩ ++ (⟨#[32, 123]⟩ : ByteArray) ++ ⟨tb.toArray⟩ ++ (⟨#[125]⟩ : ByteArray) = ⟨(acc2 ++ caseT key body true).toArray⟩ by
              rw [hct, bytes_app _ [32] acc2 (by simp), bytes_app _ key (acc2 ++ [32]) (by simp), bytes_app _ [32, 123] (acc2 ++ [32] ++ key) (by simp), bytes_app _ tb (acc2 ++ [32] ++ key ++ [32, 123]) (by simp), bytes_app _ [125] (acc2 ++ [32] ++ key ++ [32, 123] ++ tb) (by simp)]; simp)
            have HNX3 : Hid (CasesFrom w (some ⟨b2, o2, none⟩) n3 (j + 1) nx3 ∧ isN.isC nx3 = true ∧ sz nx3 ≤ sz cs ∧ wt nx3 ≤ wt cs ∧ (acc2 ++ caseT key body true) ++ txt nx3 true = acc1 ++ txt cs true ∧ flt nx3 true false 5 (seen ++ [key]) = 0) := ⟨hnext3, hncs2, hgz, hgw, g5, hfx⟩
            have HAL3 := Lib.hid hal3
            clear g1 g2 g3 g4 g5 g6 p0 p1 hsv3 hnext3 kc hbz hbw hgz hgw hnb hncs2 HT3 hfb hfx htb hct hal3 hl3 f0
            go_wp2_with fail
            refine wp_region_quiet_below (by kernel_rfl) (by kernel_rfl) ?_
            repeat (quiet_step (first | with_reducible exact D1.out _ _))
            refine wpQuiet_nil ?_
            intro _ hw'
            obtain ⟨⟨dq, osq⟩, hw''⟩ := hw'
            subst hw''
            have HB4 := Lib.hid (HB3.out.trans ((below_regrown wr dq osq).mono HB3.out.size))
            clear t0 t1 D1 n1 n2 n3' n4 n5
            simp only []
            generalize grow (redrawn wr dq) osq = W4 at HB4 ⊢
            go_wp2_with fail
            go_roundw
            case rel => exact ⟨j + 1, nx3, acc2 ++ caseT key body true, seen ++ [key], by rw [← HSe.out], by go_num, by omega, HAL3.out, HNX3.out, HB4⟩
            case measure => simp [RowKit.intOf]; omega
          · have hje : j = n3 := by omega
            subst hje
            obtain ⟨g1, g2, g3, g4, g5, g6⟩ := HT3.out
            have ht3 := casesFrom_end g1
            subst ht3
            have g7 : acc2 = acc1 ++ txt cs true := by simpa [txt] using g5
            have HSe := Lib.hid (show (⟨acc2.toArray⟩ : ByteArray) ++ (⟨#[125]⟩ : ByteArray) = ⟨(acc2 ++ [125]).toArray⟩ by rw [bytes_app _ [125] acc2 (by simp)])
            have HAC := Lib.hid (show (acc2 ++ [125]) ++ txt nx true = txt t true by rw [g7]; exact HNT.out)
            have hal4 : (acc2 ++ [125]).length ≤ 12000000 := by
              rw [g7]; have := HTt2.out; simp only [List.length_append, List.length_cons, List.length_nil]; omega
            have HAL := Lib.hid hal4
            clear g1 g2 g3 g4 g5 g6 g7 HT3 hal4
            go_wp2_with fail
            rw [HSe.out]
            obtain ⟨accn, haccn⟩ : ∃ accn, accn = acc2 ++ [125] := ⟨_, rfl⟩
            rw [← haccn] at HAL HAC ⊢
            clear haccn
            go_roundw
            case rel => exact ⟨i + 1, nx, accn, ((5 : Int) == 1), rfl, by go_num, by omega, HAL.out, ⟨HNX.out.1, HNX.out.2.1, HNX.out.2.2.1, HNX.out.2.2.2.1, HAC.out, HNX.out.2.2.2.2⟩, HBw3⟩
            case measure => simp [RowKit.intOf]; omega
      · have HNT := Lib.hid (nodeT6 f x cs true)
        have HSum := Lib.hid (show (⟨acc.toArray⟩ : ByteArray) ++ (⟨#[35]⟩ : ByteArray) = ⟨(acc ++ nodeT 6 f x cs true).toArray⟩ by rw [HNT.out]; rw [bytes_app _ [35] (acc) (by simp)])
        have hacl : (acc ++ nodeT 6 f x cs true).length ≤ 12000000 := by
          have h1 := HTot.out
          rw [← HAC0.out, txt_node, ← List.append_assoc, List.length_append] at h1; omega
        have HAL := Lib.hid hacl
        have HAC := Lib.hid (show (acc ++ nodeT 6 f x cs true) ++ txt nx true = txt t true by rw [← HAC0.out, txt_node, List.append_assoc])
        have HCa := Lib.hid (cases_val 6 f x (.slice a3 n3 c3) (.slice none 0 0) rfl)
        clear hacl
        go_wp2_with fail
        rw [HSum.out]
        refine (HCa.out _).mono ?_
        rintro e W2 ⟨rfl, hb2⟩
        have HB2 := Lib.hid (HB1.out.trans (hb2.mono HB1.out.size))
        have e0 := (hb2.cell (p := ⟨cb, 0, none⟩) (by show cb < _; omega)).trans j0
        clear hb2 j0 j1 j2 j3
        obtain ⟨accn, haccn⟩ : ∃ accn, accn = acc ++ nodeT 6 f x cs true := ⟨_, rfl⟩
        rw [← haccn] at HAL HAC ⊢
        clear haccn
        go_wp2_with fail
        go_loopw [5, 10] (fun s k wr2 => s = .string ⟨accn.toArray⟩ ∧ k = .int .i64 0 ∧ wr2 = W2) (fun _ _ _ => 0)
        case atStart => exact ⟨rfl, rfl, rfl⟩
        case round =>
          obtain ⟨rfl, rfl, rfl⟩ := hrel
          go_wp2_with fail
          go_roundw
          case rel => exact ⟨i + 1, nx, accn, ((6 : Int) == 1), rfl, by go_num, by omega, HAL.out, ⟨HNX.out.1, HNX.out.2.1, HNX.out.2.2.1, HNX.out.2.2.2.1, HAC.out, HNX.out.2.2.2.2⟩, HB2⟩
          case measure => simp [RowKit.intOf]; omega
    · have hie : i = n := by omega
      subst hie
      obtain ⟨hf1, hn1, hs1, hw1, hac0, hfl⟩ := HT.out
      have ht0 := nodesFrom_end hf1
      subst ht0
      have HA := Lib.hid (show acc = txt t true by simpa [txt] using hac0)
      clear hf1 hn1 hs1 hw1 hac0 hfl HT
      go_wp2_with fail
      go_ret
      exact ⟨by rw [← HA.out] <;> rfl, HB.out⟩

theorem rtext_any : ∀ N, RtextIH N
  | 0 => fun _ _ _ _ _ hz => absurd hz (Nat.not_lt_zero _)
  | N + 1 => fun t v mark pw w hz hn hw hs hf => by
    cases mark with
    | false => exact rtext_no N (rtext_any N) t v pw w (by omega) hn hw hs hf
    | true => exact rtext_in N (rtext_any N) t v pw w (by omega) hn hw hs hf
end Go.Proofs.YtgkphpjnfigjiaaGreatDoor
