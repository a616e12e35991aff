/-
  The walk of the law PseudoSays: it answers true.
-/
import Derived.Test.YtnefcilopgcdpaaGreatDoorSayT
import Derived.Test.YtnefcilopgcdpaaGreatDoorPmes
import Derived.Test.YtnefcilopgcdpaaGreatDoorClean
namespace Go.Proofs.YtnefcilopgcdpaaGreatDoor
open Go.RowKit Ms

theorem told_val (k : Int) (W : World) (hg : ErrTypeAt W) : Calls Tryz.prog 18 #[errVal k] W fun e w' => e = .returned (.int .i64 k) ∧ Below W.heap.size W w' := by
  by_cases hk : k = 0
  · subst hk
    exact (told_nil W).mono fun _ _ h => ⟨h.1, h.2 ▸ Below.refl _ _⟩
  · rw [errVal_no hk]
    exact told_errno k W hg
set_option maxHeartbeats 1000000 in
theorem told_same (i : Int) (w : World) (hg : ErrTypeAt w) :
    Calls Tryz.prog 7 #[errVal i, errVal i] w fun e w' => e = .returned (.bool true) ∧ Below w.heap.size w w' := by
  have HT := Lib.hid (fun W (hB : Below w.heap.size w W) => told_val i W (hg.below hB))
  generalize errVal i = v at *
  clear hg
  go_enter Tryz.func7, Tryz.ntmps7
  go_wp2_with fail
  refine (HT.out w (Below.refl _ _)).mono ?_
  rintro e w1 ⟨rfl, hb1⟩
  have HB1 := Lib.hid hb1; clear hb1
  go_wp2_with fail
  refine (HT.out w1 HB1.out).mono ?_
  rintro e w2 ⟨rfl, hb2⟩
  have HB2 := Lib.hid (HB1.out.trans (hb2.mono HB1.out.size)); clear hb2
  go_wp2_with fail
  go_ret
  exact ⟨rfl, HB2.out⟩
theorem bytes_ne {a b : List UInt8} (h : a ≠ b) : ¬ ((⟨a.toArray⟩ : ByteArray) = ⟨b.toArray⟩) := fun e => h (by
  have h2 := congrArg (fun x : ByteArray => x.data.toList) e
  simpa using h2)
set_option maxRecDepth 100000 in
set_option maxHeartbeats 4000000 in
theorem pseudoSays_walk (t : T) (v va : Value) (lang : List UInt8) (al : List Ar) (w : World) (hn : isN t = true) (hw : wt t ≤ 1048576) (hG : Gl w) (hE : ErrTypeAt w) (hs : SV w v t) (ha : AR va al w) (hal : al.length ≤ 1000000) (har : ∀ a ∈ al, a.nm.length + a.tx.length ≤ 2000000) :
    Calls Tryz.prog 3 #[v, .string ⟨lang.toArray⟩, va] w fun e w' => e = .returned (.bool true) ∧ Below w.heap.size w w' := by
  have h0 := mw_pos hG.mw
  have HBee := Lib.hid (bee_any w)
  have HPM := Lib.hid (fun W (hB : Below w.heap.size w W) => pmessage_any t v W hn (by omega) (hG.mw.below hB) (Nat.lt_of_lt_of_le h0 hB.size) (hs.below hB))
  obtain ⟨a1, n1, c1, rfl⟩ := hs.form
  by_cases hf : fault t = 0
  · rw [hf, errVal_0] at HPM
    simp only [if_true] at HPM
    have hpn := (pz_isN t).1 hn
    have hpw : wt (pz t) ≤ 2100000 := Nat.le_trans (pz_wt t) (by omega)
    obtain ⟨hc2, hle⟩ := pz_say t lang al
    have HS1 := Lib.hid (fun W (hB : Below w.heap.size w W) => says_any t (.slice a1 n1 c1) va lang al W hn (by omega) (hG.below hB) (hs.below hB) (ha.below hB) hal har)
    have HS2 := Lib.hid (fun W v' (hB : Below w.heap.size w W) (h : SV W v' (pz t)) => says_any (pz t) v' va lang al W hpn hpw (hG.below hB) h (ha.below hB) hal har)
    rw [hc2] at HS2
    have HTo := Lib.hid (fun W (hB : Below w.heap.size w W) => told_same (sayE t lang al).2 W (hE.below hB))
    have HCl := Lib.hid (fun W (hB : Below w.heap.size w W) => clean_any (sz t + 1) t (.slice a1 n1 c1) W (Nat.lt_succ_self _) hn (by omega) (Nat.lt_of_lt_of_le h0 hB.size) (hs.below hB))
    have HSm := Lib.hid (fun W v' u (h1 : SV W v' (pz t)) (h2 : SV W u (clean t)) => same_of (pz t) (clean t) v' u W hpn ((clean_isN t).1 hn) hpw (Nat.le_trans (clean_wt t) (by omega)) h1 h2)
    have HT1 := Lib.hid (fun W (hB : Below w.heap.size w W) => mtext_any t (.slice a1 n1 c1) W hn (by omega) (hG.below hB).mw (hG.below hB).mx (hs.below hB))
    have HT2 := Lib.hid (fun W v' (hB : Below w.heap.size w W) (h : SV W v' (pz t)) => mtext_any (pz t) v' W hpn hpw (hG.below hB).mw (hG.below hB).mx h)
    rw [pz_fault] at HT2
    rw [hf, errVal_0] at HT1 HT2
    simp only [if_true] at HT1 HT2
    have hsm := pz_same hn hf
    have hsb : (txt t false = txt (pz t) false ∧ sameT (pz t) (clean t) = true) ∨ (txt t false ≠ txt (pz t) false ∧ sameT (pz t) (clean t) = false) := by
      by_cases h : txt t false = txt (pz t) false
      · exact .inl ⟨h, by rw [hsm, h]; simp⟩
      · exact .inr ⟨h, by rw [hsm]; simpa using h⟩
    obtain ⟨A, hA⟩ : ∃ A, A = (sayE t lang al).1 := ⟨_, rfl⟩
    obtain ⟨B, hB⟩ : ∃ B, B = (sayE (pz t) lang al).1 := ⟨_, rfl⟩
    obtain ⟨ve, hve⟩ : ∃ ve, ve = errVal (sayE t lang al).2 := ⟨_, rfl⟩
    rw [← hve] at HS1 HS2 HTo
    rw [← hA] at HS1 hle
    rw [← hB] at HS2 hle
    have hle2 : (A.length : Int) ≤ (B.length : Int) := by omega
    generalize sameT (pz t) (clean t) = sb at *
    obtain ⟨P, hP⟩ : ∃ P, P = txt t false := ⟨_, rfl⟩
    obtain ⟨Q, hQ⟩ : ∃ Q, Q = txt (pz t) false := ⟨_, rfl⟩
    rw [← hP] at HT1 hsb
    rw [← hQ] at HT2 hsb
    have HSb := Lib.hid hsb
    have HL := Lib.hid hle2
    clear hsb hsm hP hQ hA hB hve hle hle2 hc2 hpn hpw hf hn hw hG hE hs ha hal har h0
    go_enter Tryz.func3, Tryz.ntmps3
    go_wp2_with fail
    refine HBee.out.mono ?_
    rintro e w1 ⟨rfl, hb1⟩
    have HB1 := Lib.hid hb1; clear hb1
    go_wp2_with fail
    refine (HPM.out w1 HB1.out).mono ?_
    rintro e w2 ⟨⟨v', rfl, hsv⟩, hb2⟩
    have HB2 := Lib.hid (HB1.out.trans (hb2.mono HB1.out.size)); clear hb2
    obtain ⟨a2, n2, c2, rfl⟩ := hsv.form
    have HV2 := Lib.hid hsv; clear hsv
    go_wp2_with fail
    refine (HS1.out w2 HB2.out).mono ?_
    rintro e w3 ⟨rfl, hb3⟩
    have HB3 := Lib.hid (HB2.out.trans (hb3.mono HB2.out.size)); have HV3 := Lib.hid (HV2.out.below hb3); clear hb3
    go_wp2_with fail
    refine (HS2.out w3 _ HB3.out HV3.out).mono ?_
    rintro e w4 ⟨rfl, hb4⟩
    have HB4 := Lib.hid (HB3.out.trans (hb4.mono HB3.out.size)); have HV4 := Lib.hid (HV3.out.below hb4); clear hb4
    go_wp2_with fail
    refine (HTo.out w4 HB4.out).mono ?_
    rintro e w5 ⟨rfl, hb5⟩
    have HB5 := Lib.hid (HB4.out.trans (hb5.mono HB4.out.size)); have HV5 := Lib.hid (HV4.out.below hb5); clear hb5
    go_wp2_with fail
    refine (HCl.out w5 HB5.out).mono ?_
    rintro e w6 ⟨⟨u, rfl, hu⟩, hb6⟩
    have HB6 := Lib.hid (HB5.out.trans (hb6.mono HB5.out.size)); have HV6 := Lib.hid (HV5.out.below hb6); clear hb6
    have hu2 := hu.sv
    obtain ⟨a3, n3, c3, rfl⟩ := hu2.form
    have HU := Lib.hid hu2
    clear hu hu2
    go_wp2_with fail
    refine (HSm.out w6 _ _ HV6.out HU.out).mono ?_
    rintro e w7 ⟨rfl, hb7⟩
    have HB7 := Lib.hid (HB6.out.trans (hb7.mono HB6.out.size)); have HV7 := Lib.hid (HV6.out.below hb7); clear hb7
    go_wp2_with fail
    refine (HT1.out w7 HB7.out).mono ?_
    rintro e w8 ⟨rfl, hb8⟩
    have HB8 := Lib.hid (HB7.out.trans (hb8.mono HB7.out.size)); have HV8 := Lib.hid (HV7.out.below hb8); clear hb8
    go_wp2_with fail
    refine (HT2.out w8 _ HB8.out HV8.out).mono ?_
    rintro e w9 ⟨rfl, hb9⟩
    have HB9 := Lib.hid (HB8.out.trans (hb9.mono HB8.out.size)); clear hb9
    have hl := HL.out
    have hl2 : ¬ B.length < A.length := by omega
    rcases HSb.out with ⟨rfl, rfl⟩ | ⟨hne, rfl⟩
    · clear HBee HPM HS1 HS2 HTo HCl HSm HT1 HT2 HSb HL
      go_wp2_with fail
      go_ret
      exact ⟨by simp, HB9.out⟩
    · have hne2 := bytes_ne hne
      clear HBee HPM HS1 HS2 HTo HCl HSm HT1 HT2 HSb HL
      go_wp2_with fail
      go_ret
      exact ⟨by simp [hne], HB9.out⟩
  · rw [if_neg hf, errVal_no hf] at HPM
    generalize fault t = q at *
    clear hf hn hw hG hE hs ha hal har h0
    go_enter Tryz.func3, Tryz.ntmps3
    go_wp2_with fail
    refine HBee.out.mono ?_
    rintro e w1 ⟨rfl, hb1⟩
    have HB1 := Lib.hid hb1; clear hb1
    go_wp2_with fail
    refine (HPM.out w1 HB1.out).mono ?_
    rintro e w2 ⟨⟨v', rfl, hsv⟩, hb2⟩
    have HB2 := Lib.hid (HB1.out.trans (hb2.mono HB1.out.size)); clear hb2
    obtain ⟨a2, n2, c2, rfl, hn2, _⟩ := nodesFrom_start hsv
    have hz : n2 = 0 := hn2
    subst hz
    clear hsv hn2
    go_wp2_with fail
    go_ret
    exact ⟨rfl, HB2.out⟩
theorem pseudoSays_bytes (t : T) (v va : Value) (s : ByteArray) (al : List Ar) (w : World) (hn : isN t = true) (hw : wt t ≤ 1048576) (hG : Gl w) (hE : ErrTypeAt w) (hs : SV w v t) (ha : AR va al w) (hal : al.length ≤ 1000000) (har : ∀ a ∈ al, a.nm.length + a.tx.length ≤ 2000000) :
    Calls Tryz.prog 3 #[v, .string s, va] w fun e w' => e = .returned (.bool true) ∧ Below w.heap.size w w' := by
  have h := pseudoSays_walk t v va s.data.toList al w hn hw hG hE hs ha hal har
  rwa [strOf_ext] at h
end Go.Proofs.YtnefcilopgcdpaaGreatDoor
