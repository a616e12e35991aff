/-
  dpat.pieces, whatever is told: every piece is told in its order, up to the first one that is none.
-/
import Derived.Test.YtmaccmhpcagcnaaGreatDoorLook
import Derived.Test.YtmaccmhpcagcnaaGreatDoorDq
namespace Go.Proofs.YtmaccmhpcagcnaaGreatDoor
open Go.Shelf Go.RowKit Go.Lib

theorem encode1 (c : UInt8) (h : c.toNat < 128) : Utf8.encode (c.toNat : Int) = ⟨#[c]⟩ := by
  have h1 : ∀ n : Fin 128, Utf8.encode (n.1 : Int) = ⟨#[UInt8.ofNat n.1]⟩ := by decide +kernel
  have := h1 ⟨c.toNat, h⟩
  simpa using this
theorem letter_ascii {c : UInt8} (h : Dp.letter c = true) : c.toNat < 128 := by
  rw [Dp.letter_eq] at h
  simp [Dp.letter2, UInt8.le_iff_toNat_le] at h
  omega
theorem run_dropWhile (c : UInt8) : ∀ l : List UInt8, l.length - (l.dropWhile (· == c)).length = Dp.run c l ∧ (l.dropWhile (· == c)).length ≤ l.length
  | [] => ⟨rfl, Nat.le_refl _⟩
  | b :: r => by
    have ih := run_dropWhile c r
    unfold Dp.run
    by_cases hb : b = c
    · subst hb
      rw [List.dropWhile_cons_of_pos (by simp), if_pos rfl]
      simp only [List.length_cons]; omega
    · rw [List.dropWhile_cons_of_neg (by simpa using hb), if_neg hb]
      simp only [List.length_cons]; omega
theorem cons_of (r : ByteArray) (h : 0 < r.size) : r.data.toList = r[0] :: r.data.toList.drop 1 := by
  have h1 := Lib.data_getElem? r 0 h
  cases hl : r.data.toList with
  | nil => rw [hl] at h1; cases h1
  | cons a b => rw [hl] at h1; simp at h1; rw [h1]; rfl
/-- a call of the function that is told -/
def Tells (g : Nat) (cs : Array Value) (Inv : List Dp.Piece → World → Prop) (all : List Dp.Piece) : Prop :=
  ∀ ts p q v t W, all = ts ++ p :: q → Inv ts W → PieceIs W p v t → Calls Tryz.prog g (#[v, .string t] ++ cs) W fun e w' => e = .returned (.tuple #[]) ∧ Inv (ts ++ [p]) w'

def errForm : Value := .iface 28 (.int .i64 3)
def pcsOut (b : Bool) : Value := if b = true then .nilIface else errForm

set_option maxHeartbeats 1000000 in
set_option maxRecDepth 100000 in
theorem pieces_any (g : Nat) (cs : Array Value) (Inv : List Dp.Piece → World → Prop) (s : ByteArray) (w : World) (hs : s.size ≤ 100000000)
    (eg : ∀ args W, (callFunc g args).run Tryz.prog W = .ok (.enter g args) W)
    (h0 : Inv [] w) (hM : ∀ ts W, Inv ts W → MaxAt W) (hB : ∀ ts W W', Inv ts W → Below W.heap.size W W' → Inv ts W')
    (hT : Tells g cs Inv (Dp.pp s.data.toList).1) :
    Calls Tryz.prog 10 #[.string s, .func (.func g) #[] cs] w fun e w' => e = .returned (pcsOut (Dp.pp s.data.toList).2) ∧ Inv (Dp.pp s.data.toList).1 w' := by
  have H0 := Lib.hid h0; have HM := Lib.hid hM; have HB := Lib.hid hB; have HT := Lib.hid hT
  clear h0 hM hB hT
  go_enter Tryz.func10, Tryz.ntmps10
  go_wp2_with fail
  go_loopw [0] (fun v wr => ∃ (r : ByteArray) (ts : List Dp.Piece), v = .string r ∧ r.size ≤ s.size ∧ Hid (Dp.add ts (Dp.pp r.data.toList) = Dp.pp s.data.toList) ∧ Hid (Inv ts wr)) (fun v _ => strSize v)
  case atStart => exact ⟨s, [], rfl, Nat.le_refl _, Dp.add_nil _, H0.out⟩
  case round =>
    obtain ⟨r, ts, rfl, hlen, HQ, HI⟩ := hrel
    by_cases hr0 : r.size = 0
    · have hemp := emp_true hr0
      have hq : Dp.pp s.data.toList = (ts, true) := by rw [← HQ.out, nil_of_size hr0, Dp.pp_nil]; simp [Dp.add]
      have Hq := Lib.hid hq
      clear hr0 hq
      go_wp2_with fail
      go_ret
      exact ⟨by rw [Hq.out]; rfl, by rw [Hq.out]; exact HI.out⟩
    · have hemp := emp_false hr0
      have hpos : 0 < r.size := Nat.pos_of_ne_zero hr0
      clear hr0
      have hcons := cons_of r hpos
      have hext : (r.extract 1 r.size).data.toList = r.data.toList.drop 1 := Lib.extract_to_end _ _
      have hext0 : (r.extract 0 1).data.toList = [r[0]] := by
        have : (r.extract 0 1).data.toList = (r.data.toList.take 1).drop 0 := by rw [Lib.extract_data]; rfl
        rw [this, hcons]; rfl
      have hcb : (r[0].toNat : Int) ≤ 255 := by have := r[0].toNat_lt; omega
      by_cases h39 : r[0] = 39
      · have hx1 : ((r[0].toNat : Int) == 39) = true := by rw [h39]; rfl
        rw [h39] at hcons hext0
        have hqu := dquoted_any (r.extract 1 r.size) wr (by simp; omega) (HM.out _ _ HI.out)
        rw [hext] at hqu
        cases hqq : Dp.quoted (r.data.toList.drop 1) with
        | none =>
          rw [hqq] at hqu
          have hst : Dp.step (39 :: r.data.toList.drop 1) = none := by
            rw [Dp.step_cons, if_pos rfl, hqq]; rfl
          have hpp : Dp.pp s.data.toList = (ts, false) := by
            rw [← HQ.out, hcons, Dp.pp_none hst]; simp [Dp.add]
          have HC := Lib.hid hqu; have Hpp := Lib.hid hpp
          clear hqu hpp hst hqq h39 hcons hext0 hext
          unfold dqOut at HC
          go_wp2_with fail
          refine HC.out.mono ?_
          rintro e w1 ⟨rfl, hb1⟩
          have HI1 := Lib.hid (HB.out _ _ _ HI.out hb1)
          clear hb1
          go_wp2_with fail
          go_ret
          exact ⟨by rw [Hpp.out]; rfl, by rw [Hpp.out]; exact HI1.out⟩
        | some p =>
          obtain ⟨t, x⟩ := p
          rw [hqq] at hqu
          have hql := Dp.quoted_len hqq
          have hdl : (r.data.toList.drop 1).length = r.size - 1 := by rw [List.length_drop, ← Lib.size_eq]
          rw [hdl] at hql
          have hst : Dp.step r.data.toList = some (.txt t, x) := by
            rw [hcons, Dp.step_cons, if_pos rfl, hqq]; rfl
          have hpp : Dp.add (ts ++ [.txt t]) (Dp.pp x) = Dp.pp s.data.toList := by
            rw [← HQ.out, Dp.pp_some hst, Dp.add_add]
          have hall : (Dp.pp s.data.toList).1 = ts ++ .txt t :: (Dp.pp x).1 := by
            rw [← hpp]; simp [Dp.add]
          have htx : ∀ W, PieceIs W (.txt t) zeroF ⟨t.toArray⟩ := fun W => by
            have := PieceIs.txt (w := W) ⟨t.toArray⟩
            simpa using this
          have HC2 := Lib.hid (fun W (h : Inv ts W) => HT.out _ _ _ _ _ _ hall h (htx W))
          have HC := Lib.hid hqu; have Hpp := Lib.hid hpp
          clear hqu hpp hst hqq h39 hcons hext0 hext hdl hall htx
          unfold dqOut at HC
          unfold zeroF at HC2
          go_wp2_with fail
          refine HC.out.mono ?_
          rintro e w1 ⟨rfl, hb1⟩
          have HI1 := Lib.hid (HB.out _ _ _ HI.out hb1)
          clear hb1
          go_wp2_with fail
          refine (HC2.out _ HI1.out).mono ?_
          rintro e w2 ⟨rfl, hi2⟩
          have HI2 := Lib.hid hi2; clear hi2
          go_wp2_with fail
          go_roundw
          case rel =>
            refine ⟨⟨x.toArray⟩, ts ++ [.txt t], rfl, ?_, ?_, HI2⟩
            · rw [sz_mk]; omega
            · exact Lib.hid (by simpa using Hpp.out)
          case measure => show ByteArray.size _ < ByteArray.size _; rw [sz_mk]; omega
      · have hx1 : ((r[0].toNat : Int) == 39) = false := by
          rw [beq_eq_false_iff_ne]
          intro e
          exact h39 (UInt8.toNat_inj.1 (by simpa using (Int.ofNat.inj e)))
        cases hl : Dp.letter r[0] with
        | false =>
          have hst : Dp.step r.data.toList = some (.txt (r.extract 0 1).data.toList, (r.extract 1 r.size).data.toList) := by
            rw [hext, hext0]
            rw [hcons]
            rw [Dp.step_cons, if_neg h39, if_neg (by rw [hl]; simp)]; rfl
          have hpp : Dp.add (ts ++ [.txt (r.extract 0 1).data.toList]) (Dp.pp (r.extract 1 r.size).data.toList) = Dp.pp s.data.toList := by
            rw [← HQ.out, Dp.pp_some hst, Dp.add_add]
          have hall : (Dp.pp s.data.toList).1 = ts ++ .txt (r.extract 0 1).data.toList :: (Dp.pp (r.extract 1 r.size).data.toList).1 := by
            rw [← hpp]; simp [Dp.add]
          have HC := Lib.hid (HT.out _ _ _ _ _ _ hall HI.out (.txt (r.extract 0 1)))
          have HL := Lib.hid (fun W => letter_any r[0] W)
          rw [hl] at HL
          have Hpp := Lib.hid hpp
          clear hst hpp hall hext hext0 hcons hl h39
          unfold zeroF at HC
          go_wp2_with fail
          refine (HL.out _).mono ?_
          rintro e w1 ⟨rfl, rfl⟩
          go_wp2_with fail
          refine HC.out.mono ?_
          rintro e w1 ⟨rfl, hi1⟩
          have HI1 := Lib.hid hi1; clear hi1
          go_wp2_with fail
          go_roundw
          case rel =>
            exact ⟨r.extract 1 r.size, _, rfl, by simp; omega, Hpp.out, HI1⟩
          case measure => show ByteArray.size (r.extract 1 r.size) < ByteArray.size r; rw [ByteArray.size_extract]; omega
        | true =>
          have hasc := letter_ascii hl
          have henc := encode1 r[0] hasc
          obtain ⟨k, hk⟩ : ∃ k, Dp.run r[0] r.data.toList = k := ⟨_, rfl⟩
          have hrd := run_dropWhile r[0] r.data.toList
          rw [hk, ← Lib.size_eq] at hrd
          have hkp : 1 ≤ k := by rw [← hk, hcons]; exact Dp.run_pos _ _
          have htr := fun W => Tryz.strings_TrimLeft_one r r[0] hasc W
          have htl : Lib.trimLeftB r.data.toList r[0] = r.data.toList.dropWhile (· == r[0]) := rfl
          rw [htl] at htr
          generalize r.data.toList.dropWhile (· == r[0]) = dw at hrd htr
          have hdk : r.size - dw.length = k := hrd.1
          have hdl : dw.length ≤ r.size := hrd.2
          have hkl : k ≤ r.size := by omega
          have hst : Dp.step r.data.toList = (Dp.rowOf (r.extract 0 k).data.toList).map fun i => (.fld i, (r.extract k r.size).data.toList) := by
            have e1 : (r.extract 0 k).data.toList = r.data.toList.take k := by
              have : (r.extract 0 k).data.toList = (r.data.toList.take k).drop 0 := by rw [Lib.extract_data]; rfl
              rw [this]; rfl
            have e2 : (r.extract k r.size).data.toList = r.data.toList.drop k := Lib.extract_to_end _ _
            rw [e1, e2]
            rw [hcons] at hk ⊢
            rw [Dp.step_cons, if_neg h39, if_pos hl, hk]
          have HL := Lib.hid (fun W => letter_any r[0] W)
          rw [hl] at HL
          have HTR := Lib.hid htr
          clear htr htl hrd hl hk h39 hext hext0 hasc
          subst hdk
          have hk9 : 0 < dw.length ∨ 0 < r.size := .inr hpos
          clear hk9
          cases hro : Dp.rowOf (r.extract 0 (r.size - dw.length)).data.toList with
          | none =>
            rw [hro] at hst
            have hpp : Dp.pp s.data.toList = (ts, false) := by
              rw [hcons] at hst
              rw [← HQ.out, hcons, Dp.pp_none hst]; simp [Dp.add]
            have Hpp := Lib.hid hpp; have Hro := Lib.hid hro
            clear hst hpp hcons hro
            go_wp2_with fail
            refine (HL.out _).mono ?_
            rintro e w1 ⟨rfl, rfl⟩
            go_wp2_with fail
            refine (HTR.out _).mono ?_
            rintro e w1 ⟨rfl, rfl⟩
            go_wp2_with fail
            refine (fields_any _).mono ?_
            rintro e w2 ⟨rfl, hM2⟩
            have HI2 := Lib.hid (HB.out _ _ _ HI.out (hM2.below.alloc hM2.below.size (.cells #[.nilFunc, .int .i64 0] 43)))
            have HM2 := Lib.hid hM2; clear hM2
            go_wp2_with (at_lookup; refine wpList_lookup_none _ _ 10 _ HM2.out (r.extract 0 (r.size - dw.length)) Hro.out rfl _ _ rfl rfl rfl ?_)
            go_ret
            exact ⟨by rw [Hpp.out]; rfl, by rw [Hpp.out]; exact HI2.out⟩
          | some i =>
            have hi := Dp.rowOf_lt hro
            rw [hro] at hst
            have hst' : Dp.step r.data.toList = some (.fld i, (r.extract (r.size - dw.length) r.size).data.toList) := hst
            have hpp : Dp.add (ts ++ [.fld i]) (Dp.pp (r.extract (r.size - dw.length) r.size).data.toList) = Dp.pp s.data.toList := by
              rw [← HQ.out, Dp.pp_some hst', Dp.add_add]
            have hall : (Dp.pp s.data.toList).1 = ts ++ .fld i :: (Dp.pp (r.extract (r.size - dw.length) r.size).data.toList).1 := by
              rw [← hpp]; simp [Dp.add]
            have HC2 := Lib.hid (fun W B (h : Inv ts W) (hp : PieceIs W (.fld i) (valAt B i) ⟨#[]⟩) => HT.out _ _ _ _ _ _ hall h hp)
            have Hpp := Lib.hid hpp; have Hro := Lib.hid hro; have Hi := Lib.hid hi
            clear hst hst' hpp hcons hro hall hi
            go_wp2_with fail
            refine (HL.out _).mono ?_
            rintro e w1 ⟨rfl, rfl⟩
            go_wp2_with fail
            refine (HTR.out _).mono ?_
            rintro e w1 ⟨rfl, rfl⟩
            go_wp2_with fail
            refine (fields_any _).mono ?_
            rintro e w2 ⟨rfl, hM2⟩
            obtain ⟨fn, cap, n, hv⟩ := valAt_agg w1.heap.size i Hi.out
            have hb3 : Below w2.heap.size w2 (w2.alloc (.cells #[.func fn #[] cap, .int .i64 n] 43)) := (Below.refl _ _).alloc (Nat.le_refl _) _
            have HI2 := Lib.hid (HB.out _ _ _ HI.out (hM2.below.trans (hb3.mono hM2.below.size)))
            have HP := Lib.hid (pieceIs_of_map Hi.out hM2 hb3)
            have HV := Lib.hid hv
            have HM2 := Lib.hid hM2; clear hM2 hv hb3
            go_wp2_with (at_lookup; refine wpList_lookup_some _ _ 10 _ HM2.out (r.extract 0 (r.size - dw.length)) i fn cap n Hro.out HV.out rfl _ _ rfl rfl rfl ?_)
            have hc := HC2.out _ _ HI2.out HP.out
            rw [HV.out] at hc
            refine hc.mono ?_
            rintro e w3 ⟨rfl, hi3⟩
            have HI3 := Lib.hid hi3; clear hi3 hc
            go_wp2_with fail
            go_roundw
            case rel =>
              exact ⟨r.extract (r.size - dw.length) r.size, _, rfl, by rw [ByteArray.size_extract]; omega, Hpp.out, HI3⟩
            case measure => show ByteArray.size (r.extract (r.size - dw.length) r.size) < ByteArray.size r; rw [ByteArray.size_extract]; omega
end Go.Proofs.YtmaccmhpcagcnaaGreatDoor
