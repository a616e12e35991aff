/-
  The walk of the reference Quoted: it computes the plain law's quote.
-/
import Derived.Test.YtlcomkhegppfgaaDoorRefB
namespace Go.Proofs.YtlcomkhegppfgaaDoor
open Go.Shelf Go.RowKit Go.Lib

theorem sp_of (m : Bool) (c : UInt8) : Lx.sp m c = (Lx.sg m c || c == 39) := rfl
theorem quote_cons {m : Bool} {c : UInt8} {l : List UInt8} (h : Lx.sp m c = false) : Lx.quote m (c :: l) = c :: Lx.quote m l := by
  have := Lx.quote_plain m [c] l (by simp [h])
  simpa using this
theorem drop_head {l : List UInt8} {k : Nat} {m : Bool} (h : ∀ c, l[k]? = some c → Lx.sp m c = false) : ∀ c, (l.drop k).head? = some c → Lx.sp m c = false := by
  intro c hc
  rw [List.head?_drop] at hc
  exact h c hc

set_option maxHeartbeats 1000000 in
set_option maxRecDepth 100000 in
theorem quoted_ref (s : ByteArray) (m : Bool) (w : World) (hs : s.size ≤ 100000000) :
    Calls Tryd.prog 9 #[.string s, .bool m] w fun e w' => e = .returned (.string ⟨(Lx.quote m s.data.toList).toArray⟩) ∧ w' = w := by
  have Hl := Lib.hid (Lib.size_eq s).symm
  go_enter Tryd.func9, Tryd.ntmps9
  go_wp2_with fail
  go_loop [5, 6] (fun o v => ∃ (i : Nat) (O : ByteArray), o = .string O ∧ v = .int .i64 i ∧ i ≤ s.size ∧ O.size ≤ 400000000 ∧ Hid (O.data.toList ++ Lx.quote m (s.data.toList.drop i) = Lx.quote m s.data.toList)) (fun _ v => s.size - (RowKit.intOf v).toNat)
  case atStart => exact ⟨0, ⟨#[]⟩, rfl, rfl, by omega, by simp [ByteArray.size], rfl⟩
  case round =>
    obtain ⟨i, O, rfl, rfl, hi2, hO, HQ⟩ := hrel
    by_cases hi : i < s.size
    · have hd : decide ((i : Int) < (s.size : Int)) = true := decide_eq_true (by omega)
      go_wp2_with fail
      clear hd
      go_loop [7, 8, 9] (fun v b p => ∃ (k : Nat) (P : ByteArray) (r : List UInt8), v = .int .i64 k ∧ b = .bool (r.any (Lx.sg m)) ∧ p = .string P ∧ i ≤ k ∧ k ≤ s.size ∧ P.size ≤ 2 * (k - i) ∧ Hid (P.data.toList = Lx.dup r) ∧ Hid (r ++ s.data.toList.drop k = s.data.toList.drop i) ∧ Hid (∀ c ∈ r, Lx.sp m c = true) ∧ Hid (r.length = k - i)) (fun v _ _ => s.size - (RowKit.intOf v).toNat)
      case atStart =>
        refine ⟨i, ⟨#[]⟩, [], rfl, rfl, rfl, by omega, by omega, by simp [ByteArray.size], rfl, rfl, (fun c hc => by cases hc), ?_⟩
        show 0 = i - i; omega
      case round =>
        obtain ⟨k, P, r, rfl, rfl, rfl, hk1, hk2, hP, HP, HR, HS, HL⟩ := hrel
        obtain ⟨b, hb⟩ : ∃ b, r.any (Lx.sg m) = b := ⟨_, rfl⟩
        rw [hb]
        have Hb := Lib.hid hb; clear hb
        by_cases hk : k < s.size
        · have hd : decide ((k : Int) < (s.size : Int)) = true := decide_eq_true (by omega)
          have hxl := Lib.data_getElem? s k hk
          have Hxl := Lib.hid hxl; clear hxl
          cases hsp : Lx.sp m s[k]
          · have hsg : Lx.sg m s[k] = false := by rw [sp_of] at hsp; exact (Bool.or_eq_false_iff.1 hsp).1
            have hx : s[k] ≠ 39 := by
              intro e; rw [sp_of, e] at hsp; simp at hsp
            have hx1 : ((s[k].toNat : Int) == 39) = false := by
              rw [beq_eq_false_iff_ne]
              intro e
              exact hx (UInt8.toNat_inj.1 (by simpa using (Int.ofNat.inj e)))
            have HE : Hid (∀ c, s.data.toList[k]? = some c → Lx.sp m c = false) := by
              intro c hc
              rw [Hxl.out] at hc
              rw [← Option.some.inj hc]; exact hsp
            have Hsg := Lib.hid hsg; have Hsp := Lib.hid hsp; clear hx hsg hsp
            by_cases hki : k = i
            · subst hki
              have hr0 : r = [] := List.length_eq_zero_iff.1 (by rw [HL.out]; omega)
              have Hr0 := Lib.hid hr0; clear hr0
              have Hb2 : Hid (b = false) := by
                rw [← Hb.out, Hr0.out]; rfl
              have hkk : ((k : Int) == (k : Int)) = true := by simp
              go_wp2_with fail
              refine (sign_any s[k] m _).mono ?_
              rintro e w1 ⟨rfl, rfl⟩
              rw [Hsg.out]
              go_wp2_with fail
              go_round
              case rel =>
                have hQ := HQ.out
                rw [Lx.drop_cons Hxl.out, quote_cons Hsp.out] at hQ
                have hQ' : (O.data.toList ++ [s[k]]) ++ Lx.quote m (s.data.toList.drop (k + 1)) = Lx.quote m s.data.toList := by
                  rw [← hQ]; simp
                refine ⟨k + 1, O ++ s.extract k (k + 1), rfl, by go_num, by omega, ?_, ?_⟩
                · have h1 := quote_acc hQ'
                  rw [← app_one O s k hk, ← Lib.size_eq, ← Lib.size_eq] at h1; omega
                · show _ = _
                  rw [app_one O s k hk]; exact hQ'
              case measure => simp [RowKit.intOf]; omega
            · have hkb : ((k : Int) == (i : Int)) = false := beq_eq_false_iff_ne.2 (by omega)
              have hq := Lx.quote_run m r (s.data.toList.drop k) HS.out (drop_head HE.out)
              rw [HR.out] at hq
              have hQ := HQ.out
              rw [hq] at hQ
              have Hq := Lib.hid hQ; clear hq hQ
              cases b
              · go_wp2_with fail
                refine (sign_any s[k] m _).mono ?_
                rintro e w1 ⟨rfl, rfl⟩
                rw [Hsg.out]
                go_wp2_with fail
                go_round
                case rel =>
                  have hQ := Hq.out
                  have e : Lx.dupq m r = P.data.toList := by
                    unfold Lx.dupq; rw [Hb.out, ← HP.out]; rfl
                  rw [e, ← List.append_assoc] at hQ
                  have e2 : (O ++ P : ByteArray).data.toList = O.data.toList ++ P.data.toList := by simp
                  refine ⟨k, O ++ P, rfl, rfl, by omega, ?_, ?_⟩
                  · have h1 := quote_acc hQ
                    rw [← e2, ← Lib.size_eq, ← Lib.size_eq] at h1; omega
                  · show _ = _
                    rw [e2]; exact hQ
                case measure => simp [RowKit.intOf]; omega
              · go_wp2_with fail
                refine (sign_any s[k] m _).mono ?_
                rintro e w1 ⟨rfl, rfl⟩
                rw [Hsg.out]
                go_wp2_with fail
                go_round
                case rel =>
                  have hQ := Hq.out
                  have e : Lx.dupq m r = 39 :: (P.data.toList ++ [39]) := by
                    unfold Lx.dupq; rw [Hb.out, ← HP.out]; rfl
                  rw [e, ← List.append_assoc] at hQ
                  have e2 : (O ++ ⟨#[39]⟩ ++ P ++ ⟨#[39]⟩ : ByteArray).data.toList = O.data.toList ++ 39 :: (P.data.toList ++ [39]) := by simp
                  refine ⟨k, O ++ ⟨#[39]⟩ ++ P ++ ⟨#[39]⟩, rfl, rfl, by omega, ?_, ?_⟩
                  · have h1 := quote_acc hQ
                    rw [← e2, ← Lib.size_eq, ← Lib.size_eq] at h1; omega
                  · show _ = _
                    rw [e2]; exact hQ
                case measure => simp [RowKit.intOf]; omega
          · cases hsg : Lx.sg m s[k]
            · have hx : s[k] = 39 := by rw [sp_of, hsg] at hsp; simpa using hsp
              have hx1 : ((s[k].toNat : Int) == 39) = true := by rw [hx]; rfl
              have hx2 : ((s[k].toNat : Int) != 39) = false := by rw [hx]; rfl
              have Hx := Lib.hid hx; have Hsg := Lib.hid hsg; have Hsp := Lib.hid hsp; clear hx hsg hsp
              cases b
              all_goals
                go_wp2_with fail
                refine (sign_any s[k] m _).mono ?_
                rintro e w1 ⟨rfl, rfl⟩
                rw [Hsg.out]
                go_wp2_with fail
                go_round
                case rel =>
                  refine ⟨k + 1, P ++ s.extract k (k + 1) ++ ⟨#[39]⟩, r ++ [s[k]], by go_num, ?_, rfl, by omega, by omega, ?_, ?_, ?_, ?_, ?_⟩
                  · rw [List.any_append, Hb.out, List.any_cons, Hsg.out]; rfl
                  · rw [ByteArray.size_append, app_size P s k hk]; show P.size + 1 + 1 ≤ _; omega
                  · show _ = _
                    have e : (P ++ s.extract k (k + 1) ++ ⟨#[39]⟩ : ByteArray).data.toList = (P ++ s.extract k (k + 1)).data.toList ++ [39] := by simp
                    rw [e, app_one P s k hk, HP.out, Lx.dup_append, Hx.out]; simp [Lx.dup]
                  · show _ = _
                    rw [← HR.out, Lx.drop_cons Hxl.out]; simp
                  · intro c hc
                    rcases List.mem_append.1 hc with hc | hc
                    · exact HS.out c hc
                    · simp at hc; rw [hc]; exact Hsp.out
                  · show _ = _
                    rw [List.length_append, HL.out]; simp; omega
                case measure => simp [RowKit.intOf]; omega
            · have hx : s[k] ≠ 39 := by intro e; rw [e, Lx.sg39] at hsg; cases hsg
              have hx1 : ((s[k].toNat : Int) == 39) = false := by
                rw [beq_eq_false_iff_ne]
                intro e
                exact hx (UInt8.toNat_inj.1 (by simpa using (Int.ofNat.inj e)))
              have hx2 : ((s[k].toNat : Int) != 39) = true := by
                rw [bne_iff_ne]
                intro e
                exact hx (UInt8.toNat_inj.1 (by simpa using (Int.ofNat.inj e)))
              have Hx := Lib.hid hx; have Hsg := Lib.hid hsg; have Hsp := Lib.hid hsp; clear hx hsg hsp
              cases b
              all_goals
                go_wp2_with fail
                refine (sign_any s[k] m _).mono ?_
                rintro e w1 ⟨rfl, rfl⟩
                rw [Hsg.out]
                go_wp2_with fail
                go_round
                case rel =>
                  refine ⟨k + 1, P ++ s.extract k (k + 1), r ++ [s[k]], by go_num, ?_, rfl, by omega, by omega, ?_, ?_, ?_, ?_, ?_⟩
                  · rw [List.any_append, Hb.out, List.any_cons, Hsg.out]; rfl
                  · rw [app_size P s k hk]; omega
                  · show _ = _
                    have hx := Hx.out
                    rw [app_one P s k hk, HP.out, Lx.dup_append]; simp [Lx.dup, hx]
                  · show _ = _
                    rw [← HR.out, Lx.drop_cons Hxl.out]; simp
                  · intro c hc
                    rcases List.mem_append.1 hc with hc | hc
                    · exact HS.out c hc
                    · simp at hc; rw [hc]; exact Hsp.out
                  · show _ = _
                    rw [List.length_append, HL.out]; simp; omega
                case measure => simp [RowKit.intOf]; omega
        · have hd : decide ((k : Int) < (s.size : Int)) = false := decide_eq_false (by omega)
          have hki : k ≠ i := by omega
          have hkb : ((k : Int) == (i : Int)) = false := beq_eq_false_iff_ne.2 (by omega)
          have HE : Hid (∀ c, s.data.toList[k]? = some c → Lx.sp m c = false) := by
            intro c hc
            have := (List.getElem?_eq_some_iff.1 hc).1
            rw [Hl.out] at this; omega
          have hq := Lx.quote_run m r (s.data.toList.drop k) HS.out (drop_head HE.out)
          rw [HR.out] at hq
          have hQ := HQ.out
          rw [hq] at hQ
          have Hq := Lib.hid hQ; clear hq hQ
          cases b
          · go_wp2_with fail
            go_round
            case rel =>
              have hQ := Hq.out
              have e : Lx.dupq m r = P.data.toList := by
                unfold Lx.dupq; rw [Hb.out, ← HP.out]; rfl
              rw [e, ← List.append_assoc] at hQ
              have e2 : (O ++ P : ByteArray).data.toList = O.data.toList ++ P.data.toList := by simp
              refine ⟨k, O ++ P, rfl, rfl, by omega, ?_, ?_⟩
              · have h1 := quote_acc hQ
                rw [← e2, ← Lib.size_eq, ← Lib.size_eq] at h1; omega
              · show _ = _
                rw [e2]; exact hQ
            case measure => simp [RowKit.intOf]; omega
          · go_wp2_with fail
            go_round
            case rel =>
              have hQ := Hq.out
              have e : Lx.dupq m r = 39 :: (P.data.toList ++ [39]) := by
                unfold Lx.dupq; rw [Hb.out, ← HP.out]; rfl
              rw [e, ← List.append_assoc] at hQ
              have e2 : (O ++ ⟨#[39]⟩ ++ P ++ ⟨#[39]⟩ : ByteArray).data.toList = O.data.toList ++ 39 :: (P.data.toList ++ [39]) := by simp
              refine ⟨k, O ++ ⟨#[39]⟩ ++ P ++ ⟨#[39]⟩, rfl, rfl, by omega, ?_, ?_⟩
              · have h1 := quote_acc hQ
                rw [← e2, ← Lib.size_eq, ← Lib.size_eq] at h1; omega
              · show _ = _
                rw [e2]; exact hQ
            case measure => simp [RowKit.intOf]; omega
    · have hd : decide ((i : Int) < (s.size : Int)) = false := decide_eq_false (by omega)
      go_wp2_with fail
      go_ret
      refine ⟨?_, rfl⟩
      have h := HQ.out
      rw [List.drop_eq_nil_of_le (by rw [Hl.out]; omega)] at h
      have e : Lx.quote m [] = [] := by simp [Lx.quote, Lx.qz, Lx.dupq, Lx.dup]
      rw [e, List.append_nil] at h
      rw [← h, strOf_ext]; rfl
end Go.Proofs.YtlcomkhegppfgaaDoor
