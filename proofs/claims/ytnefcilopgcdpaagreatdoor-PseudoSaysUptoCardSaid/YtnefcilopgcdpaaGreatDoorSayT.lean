/-
  eval.speaker.say.
  eval.Say.
-/
import Derived.Test.YtnefcilopgcdpaaGreatDoorOneR
import Derived.Test.YtnefcilopgcdpaaGreatDoorOne5
import Derived.Test.YtnefcilopgcdpaaGreatDoorOne4
import Derived.Test.YtnefcilopgcdpaaGreatDoorOneD
namespace Go.Proofs.YtnefcilopgcdpaaGreatDoor
open Go.RowKit Ms

theorem one_any (z o tw fe ma : List UInt8) (al : List Ar) (mb b : Nat) (w0 : World) (N : Nat) (C : SC z o tw fe ma al mb b w0) (IH : SayIH z o tw fe ma al mb b w0 N) (k : Int) (f : Int) (x : List UInt8) (cs nx : T) (v : Value) (m : Dc) (l : List UInt8) (w : World) (hS : SW z o tw fe ma al mb b l w0 w)
    (hz : sz cs ≤ N) (hn : isN (.node k x f cs nx) = true) (hw : wt (.node k x f cs nx) ≤ 2100000) (hok : oks al (.node k x f cs nx)) (hs : SV w0 v cs) (hl : l.length + (1 + (if hasC k = true then cnt cs else 0)) * 3000000 ≤ 100000000000) :
    Calls Tryz.prog 30 #[.pointer (some ⟨b, 0, none⟩), .agg #[.int .i64 k, .string ⟨x.toArray⟩, .int .i64 f, v], dcV m] w fun e w' => e = .returned (errVal (oneE ⟨[z, o, tw, fe, ma], al⟩ k x f cs m).2) ∧ Spk z o tw fe ma mb b (l ++ (oneE ⟨[z, o, tw, fe, ma], al⟩ k x f cs m).1) w' ∧ FrS b w w' := by
  by_cases h4 : k = 4
  · subst h4
    exact one_plural z o tw fe ma al mb b w0 N C IH f x cs nx v m l w hS hz hn hw hok hs hl
  · by_cases h5 : k = 5
    · subst h5
      exact one_select z o tw fe ma al mb b w0 N C IH f x cs nx v m l w hS hz hn hw hok hs hl
    · exact one_rest z o tw fe ma al mb b w0 N C IH k h4 h5 f x cs nx v m l w hS hn hw hok hs hl
set_option maxRecDepth 100000 in
set_option maxHeartbeats 8000000 in
theorem say_step (z o tw fe ma : List UInt8) (al : List Ar) (mb b : Nat) (w0 : World) (N : Nat) (C : SC z o tw fe ma al mb b w0) (IH : SayIH z o tw fe ma al mb b w0 N) (t : T) (v : Value) (w : World) (l : List UInt8) (m : Dc) (hz : sz t ≤ N) (hn : isN t = true) (hw : wt t ≤ 2100000) (hok : oks al t) (hs : SV w0 v t) (hS : SW z o tw fe ma al mb b l w0 w) (hl : l.length + cnt t * 3000000 ≤ 100000000000) :
    Calls Tryz.prog 16 #[.pointer (some ⟨b, 0, none⟩), v, dcV m] w fun e w' => e = .returned (errVal (spk ⟨[z, o, tw, fe, ma], al⟩ t 0 m).2) ∧ Spk z o tw fe ma mb b (l ++ (spk ⟨[z, o, tw, fe, ma], al⟩ t 0 m).1) w' ∧ FrS b w w' := by
  obtain ⟨a, n, c, rfl, hnl, hfr⟩ := nodesFrom_start hs
  have hlw := len_wt t
  have hn2 : n ≤ 2100000 := by omega
  obtain ⟨R, hR⟩ : ∃ R, R = spk ⟨[z, o, tw, fe, ma], al⟩ t 0 m := ⟨_, rfl⟩
  rw [← hR]
  have HONE := Lib.hid (one_any z o tw fe ma al mb b w0 N C IH)
  have HLEN := Lib.hid (fun W k x f cs nx m h1 h2 => one_len [z, o, tw, fe, ma] al W C.txt k x f cs nx m h1 h2)
  have HSL := Lib.hid (fun W cs i m h1 h2 => spk_len [z, o, tw, fe, ma] al W C.txt cs i m h1 h2)
  have HT0 := Lib.hid (show NodesFrom w0 a n 0 t ∧ isN t = true ∧ sz t ≤ sz t ∧ wt t ≤ wt t ∧ oks al t ∧ (∃ ex, l = l ++ ex ∧ R = (ex ++ (spk ⟨[z, o, tw, fe, ma], al⟩ t 0 m).1, (spk ⟨[z, o, tw, fe, ma], al⟩ t 0 m).2)) ∧ l.length + cnt t * 3000000 ≤ 100000000000 from ⟨hfr, hn, Nat.le_refl _, Nat.le_refl _, hok, ⟨[], by simp, by rw [hR]; rfl⟩, hl⟩)
  have HZ := Lib.hid hz; have HW := Lib.hid hw; have HC := Lib.hid C
  have hbox := (Below.refl w.heap.size w).alloc (Nat.le_refl _) (Obj.cells #[.int .i64 m.c, .int .i64 m.s] 51)
  have hbk := Go.heap_alloc_new w (Obj.cells #[.int .i64 m.c, .int .i64 m.s] 51)
  have hblt := hS.spk.lt
  have HS0 := Lib.hid (hS.below hbox)
  have HF0 := Lib.hid (FrS.of_below hbox (Nat.le_of_lt hblt))
  obtain ⟨wm, hwm⟩ : ∃ wm, wm = w.alloc (Obj.cells #[.int .i64 m.c, .int .i64 m.s] 51) := ⟨_, rfl⟩
  rw [← hwm] at HS0 HF0 hbk
  have HWM := Lib.hid hwm; have HMK0 := Lib.hid hbk
  obtain ⟨mx, hmx⟩ : ∃ mx, mx = w.heap.size := ⟨_, rfl⟩
  have HMX := Lib.hid hmx
  rw [← hmx] at HMK0 hblt
  clear IH hn hfr hz hw hs hlw hnl hok hS hl hbox hbk hwm hR hmx C
  unfold dcV at *
  go_enter Tryz.func16, Tryz.ntmps16
  go_wp2_with fail
  simp only [← HWM.out, ← HMX.out]
  clear HWM HMX
  go_loopw [12] (fun i wr => ∃ (i' : Nat) (t' : T) (l' : List UInt8), i' ≤ n ∧ i = .int .i64 i' ∧ Hid (NodesFrom w0 a n i' t' ∧ isN t' = true ∧ sz t' ≤ sz t ∧ wt t' ≤ wt t ∧ oks al t' ∧ (∃ ex, l' = l ++ ex ∧ R = (ex ++ (spk ⟨[z, o, tw, fe, ma], al⟩ t' 0 m).1, (spk ⟨[z, o, tw, fe, ma], al⟩ t' 0 m).2)) ∧ l'.length + cnt t' * 3000000 ≤ 100000000000) ∧ Hid (SW z o tw fe ma al mb b l' w0 wr) ∧ Hid (FrS b w wr) ∧ Hid (wr.heap[mx]? = some (Obj.cells #[.int .i64 m.c, .int .i64 m.s] 51))) (fun i _ => n - (intOf i).toNat)
  case atStart => exact ⟨0, t, l, by omega, rfl, HT0, HS0, HF0, HMK0⟩
  case round =>
    clear HT0 HS0 HF0 HMK0
    obtain ⟨i, t', l', hin, rfl, HT, HS, HF, HMK⟩ := hrel
    by_cases hlt : i < n
    · obtain ⟨hf1, hn1, hs1, hw1, hok1, hex, hlc⟩ := HT.out
      obtain ⟨k, x, f, cs, nx, bb, oo, v, rfl, rfl, q0, q1, q2, q3, hsv, hnext⟩ := nodesFrom_next hf1 hlt hn1
      obtain ⟨a9, n9, c9, rfl⟩ := hsv.form
      have kc := keepCells HS.out.bl
      have k0 := kc _ _ _ q0; have k1 := kc _ _ _ q1; have k2 := kc _ _ _ q2; have k3 := kc _ _ _ q3
      obtain ⟨hncs, hnnx⟩ := isN_node hn1
      have hw2 : wt (.node k x f cs nx) ≤ 2100000 := Nat.le_trans hw1 HW.out
      have hcc := cnt_node k f x cs nx
      have hol := HLEN.out wr k x f cs nx m hw2 hok1 (fun hh i m' => HSL.out wr cs i m' (by simp only [wt] at hw2; omega) (hok1.2.2.1 hh).2)
      have hwa := (Below.refl wr.heap.size wr).alloc (Nat.le_refl _) (Obj.cells #[.int .i64 k, .string ⟨x.toArray⟩, .int .i64 f, .slice a9 n9 c9] 60)
      have hwk := Go.heap_alloc_new wr (Obj.cells #[.int .i64 k, .string ⟨x.toArray⟩, .int .i64 f, .slice a9 n9 c9] 60)
      have hmlt : mx < wr.heap.size := (Array.getElem?_eq_some_iff.1 HMK.out).1
      have hmk := (hwa.block mx hmlt).trans HMK.out
      have hblt1 := HS.out.spk.lt
      have hSa := HS.out.below hwa
      have hFa := HF.out.trans (FrS.of_below hwa (Nat.le_of_lt hblt1))
      obtain ⟨wx, hwx⟩ : ∃ wx, wx = wr.alloc (Obj.cells #[.int .i64 k, .string ⟨x.toArray⟩, .int .i64 f, .slice a9 n9 c9] 60) := ⟨_, rfl⟩
      rw [← hwx] at hwk hmk hSa hFa
      have hone := HONE.out k f x cs nx (.slice a9 n9 c9) m l' wx hSa (by have h1 := HZ.out; simp only [sz] at hs1; omega) hn1 hw2 hok1 hsv (Nat.le_trans (Nat.add_le_add_left (Nat.mul_le_mul_right _ (by rw [hcc]; exact Nat.le_add_right _ _)) _) hlc)
      obtain ⟨P, hP⟩ : ∃ P, P = oneE ⟨[z, o, tw, fe, ma], al⟩ k x f cs m := ⟨_, rfl⟩
      rw [← hP] at hone hol
      try unfold dcV at hone
      have HONEx := Lib.hid hone; have HWX := Lib.hid hwx; have HFA := Lib.hid hFa; have HMKx := Lib.hid hmk; have HSA := Lib.hid hSa
      have HNX := Lib.hid (show NodesFrom w0 (some ⟨bb, oo, none⟩) n (i + 1) nx ∧ isN nx = true ∧ sz nx ≤ sz t ∧ wt nx ≤ wt t ∧ oks al nx ∧ (l' ++ P.1).length + cnt nx * 3000000 ≤ 100000000000 from ⟨hnext, hnnx, by simp only [sz] at hs1; omega, by simp only [wt] at hw1; omega, hok1.2.2.2, by
        rw [List.length_append]
        refine Nat.le_trans ?_ hlc
        rw [hcc, Nat.add_mul _ (cnt nx), ← Nat.add_assoc]
        exact Nat.add_le_add_right (Nat.add_le_add_left hol _) _⟩)
      have HEX := Lib.hid (show ∃ ex, l' = l ++ ex ∧ R = (ex ++ (if P.2 ≠ 0 then P else (P.1 ++ (spk ⟨[z, o, tw, fe, ma], al⟩ nx 0 m).1, (spk ⟨[z, o, tw, fe, ma], al⟩ nx 0 m).2)).1, (if P.2 ≠ 0 then P else (P.1 ++ (spk ⟨[z, o, tw, fe, ma], al⟩ nx 0 m).1, (spk ⟨[z, o, tw, fe, ma], al⟩ nx 0 m).2)).2) by
        obtain ⟨ex, h1, h2⟩ := hex
        rw [spk_node, ← hP] at h2
        exact ⟨ex, h1, h2⟩)
      have y0 : wx.cell? ⟨wr.heap.size, 0, none⟩ = some (.int .i64 k) := block_cell hwk rfl
      have y1 : wx.cell? ⟨wr.heap.size, 1, none⟩ = some (.string ⟨x.toArray⟩) := block_cell hwk rfl
      have y2 : wx.cell? ⟨wr.heap.size, 2, none⟩ = some (.int .i64 f) := block_cell hwk rfl
      have y3 : wx.cell? ⟨wr.heap.size, 3, none⟩ = some (.slice a9 n9 c9) := block_cell hwk rfl
      have m0 : wx.cell? ⟨mx, 0, none⟩ = some (.int .i64 m.c) := block_cell hmk rfl
      have m1 : wx.cell? ⟨mx, 1, none⟩ = some (.int .i64 m.s) := block_cell hmk rfl
      clear hf1 hn1 hs1 hw1 hok1 hex hlc q0 q1 q2 q3 hsv hnext kc hncs hnnx hw2 hcc hol hwa hwk hmk hblt1 hSa hFa hwx hone hP HT HS HF HMK HONE HLEN HSL
      go_upto_region 4 with fail
      simp only [← HWX.out]
      clear HWX k0 k1 k2 k3
      go_wp2_with fail
      refine HONEx.out.mono ?_
      rintro e w1 ⟨rfl, hs1, hf1⟩
      have HSP := Lib.hid hs1
      have HSW := Lib.hid (HSA.out.step HC.out hs1 hf1)
      have HFF := Lib.hid (HFA.out.trans hf1)
      have HMK1 := Lib.hid (hf1.tf _ _ _ _ HMKx.out (by decide) (by omega))
      clear hs1 hf1 y0 y1 y2 y3 m0 m1
      by_cases hp : P.2 = 0
      · have HN2 := Lib.hid (show ∃ ex, l' ++ P.1 = l ++ ex ∧ R = (ex ++ (spk ⟨[z, o, tw, fe, ma], al⟩ nx 0 m).1, (spk ⟨[z, o, tw, fe, ma], al⟩ nx 0 m).2) by
          obtain ⟨ex, h1, h2⟩ := HEX.out
          rw [if_neg (by simp [hp])] at h2
          exact ⟨ex ++ P.1, by rw [h1]; simp, by rw [h2]; simp⟩)
        rw [hp, errVal_0]
        clear HEX
        go_wp2_with fail
        go_roundw
        case rel => exact ⟨i + 1, nx, l' ++ P.1, by omega, by go_num, Lib.hid ⟨HNX.out.1, HNX.out.2.1, HNX.out.2.2.1, HNX.out.2.2.2.1, HNX.out.2.2.2.2.1, HN2.out, HNX.out.2.2.2.2.2⟩, HSW, HFF, HMK1⟩
        case measure => simp [intOf]; omega
      · rw [errVal_no hp]
        have HE := Lib.hid (show R.2 = P.2 ∧ l ++ R.1 = l' ++ P.1 by
          obtain ⟨ex, h1, h2⟩ := HEX.out
          rw [if_pos hp] at h2
          rw [h2, h1]
          exact ⟨rfl, by simp⟩)
        have HP := Lib.hid hp
        go_wp2_with fail
        go_ret
        exact ⟨by rw [HE.out.1, errVal_no HP.out]; rfl, by rw [HE.out.2]; exact HSP.out, HFF.out⟩
    · obtain rfl : i = n := by omega
      obtain ⟨hf1, _, _, _, _, hex, _⟩ := HT.out
      have hnil := nodesFrom_end hf1
      subst hnil
      have HE := Lib.hid (show R.2 = 0 ∧ l ++ R.1 = l' by
        obtain ⟨ex, h1, h2⟩ := hex
        rw [h2, h1]
        exact ⟨rfl, by simp [spk]⟩)
      clear hf1 hex
      go_wp2_with fail
      go_ret
      exact ⟨by rw [HE.out.1, errVal_0]; rfl, by rw [HE.out.2]; exact HS.out.spk, HF.out⟩
theorem say_any (z o tw fe ma : List UInt8) (al : List Ar) (mb b : Nat) (w0 : World) (C : SC z o tw fe ma al mb b w0) : ∀ N, SayIH z o tw fe ma al mb b w0 N
  | 0 => fun _ _ _ _ _ hz => absurd hz (Nat.not_lt_zero _)
  | N + 1 => fun t v W l m hz hn hw hok hs hS hl => say_step z o tw fe ma al mb b w0 N C (say_any z o tw fe ma al mb b w0 C N) t v W l m (by omega) hn hw hok hs hS hl
end Go.Proofs.YtnefcilopgcdpaaGreatDoor
namespace Go.Proofs.YtnefcilopgcdpaaGreatDoor
open Go.RowKit Ms

theorem any_pair (x : List UInt8) (l : List Ar) : (l.map (fun a => (a.nm, a.num))).any (fun p => p.1 == x) = (l.map (fun a => (a.nm, a))).any (fun p => p.1 == x) := by
  induction l with
  | nil => rfl
  | cons a l ih => simp only [List.map_cons, List.any_cons, ih]
theorem arL_take (al : List Ar) (i : Nat) (h : i < al.length) : arL (al.take (i + 1)) = arL (al.take i) ++ [(.string ⟨(al.getD i az).nm.toArray⟩, arV (al.getD i az))] := by
  have e : al.take (i + 1) = al.take i ++ [al.getD i az] := by
    rw [List.take_add_one, List.getElem?_eq_getElem h, List.getD_eq_getElem?_getD, List.getElem?_eq_getElem h]; rfl
  unfold arL
  rw [e, List.map_append, assocV_app]
  rfl
theorem Spk.grown {z o t f m : List UInt8} {mb b : Nat} {W W' : World} (h : Spk z o t f m mb b [] W) (hb : W'.heap[b]? = W.heap[b]?) : Spk z o t f m mb b [] W' := by
  obtain ⟨p, v, hp, hk, _, hn⟩ := h
  obtain rfl := hn rfl
  exact ⟨p, _, hp, hb.trans hk, World.ownsRow_nil _ _ _ _, fun _ => rfl⟩
set_option maxRecDepth 100000 in
set_option maxHeartbeats 8000000 in
theorem says_any (t : T) (v va : Value) (lang : List UInt8) (al : List Ar) (w : World) (hn : isN t = true) (hw : wt t ≤ 2100000) (hG : Gl w) (hs : SV w v t) (ha : AR va al w) (hal : al.length ≤ 1000000) (har : ∀ a ∈ al, a.nm.length + a.tx.length ≤ 2000000) :
    Calls Tryz.prog 6 #[v, .string ⟨lang.toArray⟩, va] w fun e w' => e = .returned (.tuple #[.string ⟨(sayE t lang al).1.toArray⟩, errVal (sayE t lang al).2]) ∧ Below w.heap.size w w' := by
  obtain ⟨a1, n1, c1, rfl⟩ := hs.form
  have HFI := Lib.hid (fits_any t (.slice a1 n1 c1) va al w hn hw hG.mw hs ha hal (fun a h => by have := har a h; omega))
  obtain ⟨a2, c2, rfl, hap⟩ := ha
  by_cases hf : fitsE t al = 0
  · have hoks := fits_oks t al hf
    have hcnt : cnt t ≤ 60 := by
      have h1 : ofFault t = 0 := by
        unfold fitsE at hf
        by_cases h : ofFault t = 0
        · exact h
        · rw [if_pos h] at hf; exact absurd hf h
      have h2 : fault t = 0 := by
        unfold ofFault at h1
        by_cases h : fault t = 0
        · exact h
        · rw [if_pos h] at h1; exact absurd h1 h
      exact fault0_cnt h2
    have hag : (argsGo al []).1 = 0 := by
      unfold fitsE at hf
      by_cases h1 : ofFault t = 0
      · rw [if_neg (by simp [h1])] at hf
        by_cases h : (argsGo al []).1 = 0
        · exact h
        · rw [if_pos h] at hf; exact absurd hf h
      · rw [if_pos h1] at hf; exact absurd hf h1
    obtain ⟨_, _, hdist⟩ := args_ok al [] hag
    have HD := Lib.hid hdist
    obtain ⟨z, o, tw, fe, ma, hset, hst⟩ : ∃ z o tw fe ma, setOf lang = [z, o, tw, fe, ma] ∧ ∀ y ∈ [z, o, tw, fe, ma], SetText y := by
      have h := setOf_texts lang
      match hl : setOf lang, h with
      | [z, o, tw, fe, ma], h => exact ⟨z, o, tw, fe, ma, rfl, h.2⟩
      | [], h => simp at h
      | [_], h => simp at h
      | [_, _], h => simp at h
      | [_, _, _], h => simp at h
      | [_, _, _, _], h => simp at h
      | _ :: _ :: _ :: _ :: _ :: _ :: _, h => simp at h
    obtain ⟨R, hR⟩ : ∃ R, R = spk ⟨[z, o, tw, fe, ma], al⟩ t 0 ⟨0, 0⟩ := ⟨_, rfl⟩
    have HSE := Lib.hid (show sayE t lang al = if R.2 ≠ 0 then ([], R.2) else (R.1, 0) by unfold sayE; rw [if_neg (by simp [hf]), hset, ← hR])
    have HSAY := Lib.hid (fun mb b W (h1 : w.heap.size ≤ mb) (h2 : mb < b) (h : SW z o tw fe ma al mb b [] w W) => say_any z o tw fe ma al mb b w ⟨hG, h1, h2, hst, fun a h => by have := har a h; omega⟩ (sz t + 1) t (.slice a1 n1 c1) W [] ⟨0, 0⟩ (Nat.lt_succ_self _) hn hw hoks hs h (by simp only [List.length_nil]; omega))
    rw [← hR] at HSAY
    rw [hf, errVal_0] at HFI
    generalize sayE t lang al = S at *
    have HAP := Lib.hid hap; have HRU := Lib.hid (fun W => Rules_any lang W); have HST := Lib.hid hset
    clear hoks hcnt hag hdist hst hset hR hf hs hn hw hG har hap
    unfold dcV at HSAY
    go_enter Tryz.func6, Tryz.ntmps6
    go_wp2_with fail
    refine HFI.out.mono ?_
    rintro e w1 ⟨rfl, hb1⟩
    have hmm := @run_makeMap Tryz.prog
    obtain ⟨b1, b2, b3, b4⟩ := two_boxes w1 (.map #[] 0) (Obj.cells #[.string ⟨#[]⟩, .string ⟨#[]⟩, .string ⟨#[]⟩, .string ⟨#[]⟩, .string ⟨#[]⟩, .map (some w1.heap.size), .pointer none, .slice none 0 0] 47)
    obtain ⟨W2, hW2⟩ : ∃ W2, W2 = (w1.alloc (.map #[] 0)).alloc (Obj.cells #[.string ⟨#[]⟩, .string ⟨#[]⟩, .string ⟨#[]⟩, .string ⟨#[]⟩, .string ⟨#[]⟩, .map (some w1.heap.size), .pointer none, .slice none 0 0] 47) := ⟨_, rfl⟩
    rw [← hW2] at b1 b2 b3 b4
    have hm2 : MapIs W2 w1.heap.size [] := ⟨#[], 0, b1, rfl⟩
    have HM2 := Lib.hid hm2; have HK2 := Lib.hid b2; have HB2 := Lib.hid (hb1.trans (b3.mono hb1.size)); have HW2 := Lib.hid hW2; have HZ2 := Lib.hid b4
    have hmb : w.heap.size ≤ w1.heap.size := hb1.size
    clear hW2 b1 b2 b3 b4 hm2 hb1 HFI
    go_upto_region 5 with fail
    simp only [← HW2.out]
    clear HW2 hmm
    obtain ⟨mb, hmbe⟩ : ∃ mb, mb = w1.heap.size := ⟨_, rfl⟩
    obtain ⟨b, hbe⟩ : ∃ b, b = w1.heap.size + 1 := ⟨_, rfl⟩
    have hmb1 : mb < b := by omega
    rw [← hmbe] at HM2 hmb HZ2
    rw [← hbe] at HK2
    rw [← hmbe] at HK2
    try simp only [← hbe]
    clear hmbe hbe
    go_wp2_with fail
    refine (HRU.out W2).mono ?_
    rintro e w3 ⟨hout, hb3⟩
    have hb2lt : b < W2.heap.size := (Array.getElem?_eq_some_iff.1 HK2.out).1
    have kb := (hb3.block b hb2lt).trans HK2.out
    have hm3 := HM2.out.below hb3
    have hB3 := HB2.out.trans (hb3.mono HB2.out.size)
    have hb3lt : b < w3.heap.size := (Array.getElem?_eq_some_iff.1 kb).1
    rcases hout with rfl | ⟨rfl, hno⟩
    case' inl =>
      rw [HST.out, show setL [z, o, tw, fe, ma] = .agg #[.string ⟨z.toArray⟩, .string ⟨o.toArray⟩, .string ⟨tw.toArray⟩, .string ⟨fe.toArray⟩, .string ⟨ma.toArray⟩] from rfl]
      have hbA := (Below.refl w3.heap.size w3).alloc (Nat.le_refl _) (Obj.cells #[.string ⟨z.toArray⟩, .string ⟨o.toArray⟩, .string ⟨tw.toArray⟩, .string ⟨fe.toArray⟩, .string ⟨ma.toArray⟩] 41)
      have hkA := Go.heap_alloc_new w3 (Obj.cells #[.string ⟨z.toArray⟩, .string ⟨o.toArray⟩, .string ⟨tw.toArray⟩, .string ⟨fe.toArray⟩, .string ⟨ma.toArray⟩] 41)
      obtain ⟨W4, hW4⟩ : ∃ W4, W4 = w3.alloc (Obj.cells #[.string ⟨z.toArray⟩, .string ⟨o.toArray⟩, .string ⟨tw.toArray⟩, .string ⟨fe.toArray⟩, .string ⟨ma.toArray⟩] 41) := ⟨_, rfl⟩
      rw [← hW4] at hbA hkA
      have kb4 := (hbA.block b hb3lt).trans kb
      have u0 : W4.cell? ⟨w3.heap.size, 0, none⟩ = some (.string ⟨z.toArray⟩) := block_cell hkA rfl
      have u1 : W4.cell? ⟨w3.heap.size, 1, none⟩ = some (.string ⟨o.toArray⟩) := block_cell hkA rfl
      have u2 : W4.cell? ⟨w3.heap.size, 2, none⟩ = some (.string ⟨tw.toArray⟩) := block_cell hkA rfl
      have u3 : W4.cell? ⟨w3.heap.size, 3, none⟩ = some (.string ⟨fe.toArray⟩) := block_cell hkA rfl
      have u4 : W4.cell? ⟨w3.heap.size, 4, none⟩ = some (.string ⟨ma.toArray⟩) := block_cell hkA rfl
      have v0 : W4.cell? ⟨b, 0, none⟩ = some (.string ⟨#[]⟩) := block_cell kb4 rfl
      have v1 : W4.cell? ⟨b, 1, none⟩ = some (.string ⟨#[]⟩) := block_cell kb4 rfl
      have v2 : W4.cell? ⟨b, 2, none⟩ = some (.string ⟨#[]⟩) := block_cell kb4 rfl
      have v3 : W4.cell? ⟨b, 3, none⟩ = some (.string ⟨#[]⟩) := block_cell kb4 rfl
      have v4 : W4.cell? ⟨b, 4, none⟩ = some (.string ⟨#[]⟩) := block_cell kb4 rfl
      have f0 : W4.frozen? ⟨b, 0, none⟩ = false := by simp [World.frozen?, kb4]
      have f1 : W4.frozen? ⟨b, 1, none⟩ = false := by simp [World.frozen?, kb4]
      have f2 : W4.frozen? ⟨b, 2, none⟩ = false := by simp [World.frozen?, kb4]
      have f3 : W4.frozen? ⟨b, 3, none⟩ = false := by simp [World.frozen?, kb4]
      have f4 : W4.frozen? ⟨b, 4, none⟩ = false := by simp [World.frozen?, kb4]
      obtain ⟨hoth, hbel⟩ := set5 W4 b w.heap.size (by omega) (.string ⟨z.toArray⟩) (.string ⟨o.toArray⟩) (.string ⟨tw.toArray⟩) (.string ⟨fe.toArray⟩) (.string ⟨ma.toArray⟩)
      have kb5 := Joins.block_setCell (i := 4) (Joins.block_setCell (i := 3) (Joins.block_setCell (i := 2) (Joins.block_setCell (i := 1) (Joins.block_setCell (i := 0) kb4 (.string ⟨z.toArray⟩)) (.string ⟨o.toArray⟩)) (.string ⟨tw.toArray⟩)) (.string ⟨fe.toArray⟩)) (.string ⟨ma.toArray⟩)
      obtain ⟨W5, hW5⟩ : ∃ W5, W5 = ((((W4.setCell ⟨b, 0, none⟩ (.string ⟨z.toArray⟩)).setCell ⟨b, 1, none⟩ (.string ⟨o.toArray⟩)).setCell ⟨b, 2, none⟩ (.string ⟨tw.toArray⟩)).setCell ⟨b, 3, none⟩ (.string ⟨fe.toArray⟩)).setCell ⟨b, 4, none⟩ (.string ⟨ma.toArray⟩) := ⟨_, rfl⟩
      rw [← hW5] at kb5 hoth hbel
      have HSP := Lib.hid (show Spk z o tw fe ma mb b [] W5 from ⟨.pointer none, .slice none 0 0, .inl rfl, kb5, World.ownsRow_nil _ _ _ _, fun _ => rfl⟩)
      have HM := Lib.hid ((hm3.below hbA).block (hoth mb (by omega)))
      have HB := Lib.hid (hB3.trans ((hbA.mono hB3.size).trans hbel))
      have HW4 := Lib.hid hW4; have HW5 := Lib.hid hW5
      clear hbA hkA kb4 hoth hbel kb5 hW4 hW5 kb hm3 hB3 HK2 HM2 HB2
      go_upto_region 7 with fail
      rw [← HW4.out]
      clear HW4
      go_upto_region 8 with fail
      rw [← HW5.out]
      clear HW5 u0 u1 u2 u3 u4 v0 v1 v2 v3 v4 f0 f1 f2 f3 f4
    case' inr =>
      have he := HST.out.symm.trans hno
      simp only [noSet, List.cons.injEq, and_true] at he
      have hbA := (Below.refl w3.heap.size w3).alloc (Nat.le_refl _) (Obj.cells #[.string ⟨#[]⟩, .string ⟨#[]⟩, .string ⟨#[]⟩, .string ⟨#[]⟩, .string ⟨#[]⟩] 41)
      obtain ⟨W5, hW5⟩ : ∃ W5, W5 = w3.alloc (Obj.cells #[.string ⟨#[]⟩, .string ⟨#[]⟩, .string ⟨#[]⟩, .string ⟨#[]⟩, .string ⟨#[]⟩] 41) := ⟨_, rfl⟩
      rw [← hW5] at hbA
      have kb4 := (hbA.block b hb3lt).trans kb
      have HSP := Lib.hid (show Spk z o tw fe ma mb b [] W5 from by
        obtain ⟨rfl, rfl, rfl, rfl, rfl⟩ := he
        exact ⟨.pointer none, .slice none 0 0, .inl rfl, kb4, World.ownsRow_nil _ _ _ _, fun _ => rfl⟩)
      have HM := Lib.hid (hm3.below hbA)
      have HB := Lib.hid (hB3.trans (hbA.mono hB3.size))
      have HW5 := Lib.hid hW5
      clear hbA kb4 hW5 kb hm3 hB3 HK2 HM2 HB2 he hno
      unfold setV
      go_upto_region 8 with fail
      rw [← HW5.out]
      clear HW5
    all_goals
      clear hb3 hb2lt hb3lt HRU HST HZ2
      go_wp2_with fail
      go_loopw [37] (fun i wr => ∃ i' : Nat, i' ≤ al.length ∧ i = .int .i64 i' ∧ Hid (Spk z o tw fe ma mb b [] wr) ∧ Hid (MapIs wr mb (arL (al.take i'))) ∧ Hid (Below w.heap.size w wr)) (fun i _ => al.length - (intOf i).toNat)
      case atStart => exact ⟨0, Nat.zero_le _, rfl, HSP, HM, HB⟩
      case round =>
        clear HSP HM HB
        obtain ⟨i, hi, rfl, HSP, HM, HB⟩ := hrel
        by_cases hlt : i < al.length
        · obtain ⟨g, og, rfl, hc⟩ : ∃ g o, a2 = some ⟨g, o, none⟩ ∧ ∀ i, i < al.length → ArCells w g (o + i * 5) (al.getD i az) := by
            rcases HAP.out with h0 | h
            · omega
            · exact h
          have hci := hc i hlt
          have htk := arL_take al i hlt
          have hdi := HD.out i hlt
          rw [List.nil_append, any_pair] at hdi
          have hge : al[i] = al.getD i az := by rw [List.getD_eq_getElem?_getD, List.getElem?_eq_getElem hlt]; rfl
          rw [hge] at hdi
          obtain ⟨x, hx⟩ : ∃ x, x = al.getD i az := ⟨_, rfl⟩
          rw [← hx] at hci htk hdi
          have hnew := assoc_new arV x.nm _ hdi
          have kk := keepCells HB.out
          have q0 := kk _ _ _ hci.c0; have q1 := kk _ _ _ hci.c1; have q2 := kk _ _ _ hci.c2; have q3 := kk _ _ _ hci.c3; have q4 := kk _ _ _ hci.c4
          have hba := (Below.refl wr.heap.size wr).alloc (Nat.le_refl _) (Obj.cells #[.string ⟨x.nm.toArray⟩, .bool x.num, .int .i64 x.d.c, .int .i64 x.d.s, .string ⟨x.tx.toArray⟩] 53)
          have hka := Go.heap_alloc_new wr (Obj.cells #[.string ⟨x.nm.toArray⟩, .bool x.num, .int .i64 x.d.c, .int .i64 x.d.s, .string ⟨x.tx.toArray⟩] 53)
          obtain ⟨wa, hwa⟩ : ∃ wa, wa = wr.alloc (Obj.cells #[.string ⟨x.nm.toArray⟩, .bool x.num, .int .i64 x.d.c, .int .i64 x.d.s, .string ⟨x.tx.toArray⟩] 53) := ⟨_, rfl⟩
          rw [← hwa] at hba hka
          have hsp := HSP.out.below hba
          have hma := (HM.out.below hba).below (Below.refl wa.heap.size wa).drew
          have hBa := (HB.out.trans (hba.mono HB.out.size)).drew
          obtain ⟨w6, hrun, hM6, hg6, hz6⟩ := run_put_new argTy hma (assoc_keys arV _) (key := .string ⟨x.nm.toArray⟩) (val := arV x) trivial hnew
          have hsb : wa.drew.cell? ⟨b, 5, none⟩ = some (.map (some mb)) := by
            obtain ⟨p, v, _, hk, _⟩ := hsp
            exact block_cell (w := wa.drew) (i := 5) hk rfl
          have hsb2 : wa.cell? ⟨b, 5, none⟩ = some (.map (some mb)) := hsb
          have y0 : wa.cell? ⟨wr.heap.size, 0, none⟩ = some (.string ⟨x.nm.toArray⟩) := block_cell hka rfl
          have y1 : wa.cell? ⟨wr.heap.size, 1, none⟩ = some (.bool x.num) := block_cell hka rfl
          have y2 : wa.cell? ⟨wr.heap.size, 2, none⟩ = some (.int .i64 x.d.c) := block_cell hka rfl
          have y3 : wa.cell? ⟨wr.heap.size, 3, none⟩ = some (.int .i64 x.d.s) := block_cell hka rfl
          have y4 : wa.cell? ⟨wr.heap.size, 4, none⟩ = some (.string ⟨x.tx.toArray⟩) := block_cell hka rfl
          have HSP6 := Lib.hid (hsp.grown (hg6.block b hsp.lt (fun e => by simp at e; omega)))
          rw [show arL (al.take i) = assocV arV ((al.take i).map fun a => (a.nm, a)) from rfl] at htk
          have HM6 := Lib.hid (show MapIs w6 mb (arL (al.take (i + 1))) by rw [htk]; exact hM6)
          have HB6 := Lib.hid (below_grown hBa hg6 (fun k e => by cases e; exact hmb) hBa.size)
          have HWA := Lib.hid hwa
          clear hc hci htk hdi hge hx hnew kk hba hka hsp hma hBa hM6 hg6 hz6 hwa HSP HM HB
          unfold arV at hrun
          go_upto_region 11 with fail
          rw [← HWA.out]
          clear HWA q0 q1 q2 q3 q4
          go_region
          all_goals
            go_wp2_with fail
            go_roundw
            case rel => exact ⟨i + 1, by omega, by go_num, HSP6, HM6, HB6⟩
            case measure => simp [intOf]; omega
        · obtain rfl : i = al.length := by omega
          have hM := HM.out
          rw [List.take_length] at hM
          have HSAYw := Lib.hid (HSAY.out mb b wr hmb hmb1 ⟨HSP.out, hM, HB.out⟩)
          clear hM HSAY
          go_wp2_with fail
          refine HSAYw.out.mono ?_
          rintro e w7 ⟨rfl, hs7, hf7⟩
          have HS7 := Lib.hid hs7
          have HB7 := Lib.hid (HB.out.trans (hf7.below.mono (by omega)))
          rw [List.nil_append] at HS7
          clear hs7 hf7 HSAYw
          by_cases hr : R.2 = 0
          · have HQ := Lib.hid (show S = (R.1, 0) by rw [HSE.out, if_neg (by simp [hr])])
            have HST := Lib.hid (bstr_any z o tw fe ma mb b R.1 w7 HS7.out)
            rw [hr, errVal_0]
            go_wp2_with fail
            refine HST.out.mono ?_
            rintro e w8 ⟨rfl, hb8⟩
            have HB8 := Lib.hid (HB7.out.trans (hb8.mono (by omega)))
            clear hb8 HST
            go_wp2_with fail
            go_ret2
            exact ⟨by rw [HQ.out]; rfl, HB8.out⟩
          · have HQ := Lib.hid (show S = ([], R.2) by rw [HSE.out, if_pos hr])
            have HE := Lib.hid (errVal_no hr)
            rw [errVal_no hr]
            go_wp2_with fail
            go_ret2
            exact ⟨by rw [HQ.out, HE.out]; rfl, HB7.out⟩
  · have HE := Lib.hid (show sayE t lang al = ([], fitsE t al) by unfold sayE; rw [if_pos hf])
    rw [errVal_no hf] at HFI
    have HQ := Lib.hid (errVal_no hf)
    generalize fitsE t al = q at *
    generalize sayE t lang al = S at *
    clear hf hn hw hG hs hap hal har
    go_enter Tryz.func6, Tryz.ntmps6
    go_wp2_with fail
    refine HFI.out.mono ?_
    rintro e w1 ⟨rfl, hb1⟩
    have HB1 := Lib.hid hb1; clear hb1
    go_wp2_with fail
    go_ret2
    exact ⟨by rw [HE.out, HQ.out]; rfl, HB1.out⟩
end Go.Proofs.YtnefcilopgcdpaaGreatDoor
