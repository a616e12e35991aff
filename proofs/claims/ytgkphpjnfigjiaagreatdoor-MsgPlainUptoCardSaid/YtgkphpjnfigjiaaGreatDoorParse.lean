/-
  msg.Parse: the message of a text, if it is one's.
-/
import Derived.Test.YtgkphpjnfigjiaaGreatDoorRmsg
import Derived.Test.YtgkphpjnfigjiaaGreatDoorChk
import Derived.Test.YtgkphpjnfigjiaaGreatDoorBase
import Derived.Recover
import Derived.Stop.Asserts
import Derived.KernelRfl
namespace Go.Proofs.YtgkphpjnfigjiaaGreatDoor
open Go.RowKit Ms

theorem rmsg_any : ∀ n : Nat, n ≤ 100000 → MsgIH n
  | 0, _ => fun s _ _ _ _ h => absurd h (Nat.not_lt_zero _)
  | n + 1, hn => fun s deep mark rb w hs hd hA => by
    cases mark with
    | false => exact rmsg_false n (rmsg_any n (by omega)) (by omega) s deep rb w (by omega) hd hA
    | true => exact rmsg_true n (rmsg_any n (by omega)) (by omega) s deep rb w (by omega) hd hA

/-- what stands behind a deferred body, the frames below at hand -/
def PostC (P : Program) (fn : Func) (c₀ : Frame) (cs : List Frame) (R : Ending → FrameMode → World → Prop) (cs' : List Frame) (e : Exit) (a : Act) (w : World) : Prop := bodyPostS P fn c₀ cs R e a cs' w
theorem wpS_post {P : Program} {fn : Func} {c₀ : Frame} {cs cs' : List Frame} {R : Ending → FrameMode → World → Prop} {c : Code} {a : Act} {w : World} (h : c.wp P (PostC P fn c₀ cs R cs') a w) : c.wpS P (bodyPostS P fn c₀ cs R) a cs' w := wpS_of_wp h
set_option maxHeartbeats 1000000 in
set_option maxRecDepth 100000 in
/-- the deferred closure, where nothing panics -/
theorem parse_idle (p q : Addr) (w : World) :
    CallsD Tryz.prog 23 #[.pointer (some p), .pointer (some q)] .returning w fun e u' w' => e = .returned (.tuple #[]) ∧ u' = .returning ∧ w' = w := by
  refine callsD_of_wpS Tryz.func23 rfl fun c₀ cs hu => ?_
  apply wpS_seq
  apply wpS_region
  simp [wpOpsS, go_sem, recoverD, hu, Tryz.ntmps23, Exit.thenS]
  refine wpS_post ?_
  change Code.wp _ _ _ ({ tmps := #[.pointer (some p), .pointer (some q), .nilIface, undef, undef, .nilIface, undef, undef, undef, undef, undef, undef, undef, undef, undef, undef, undef, undef], defers := [] } : Act) w
  go_wp2_with fail
  refine ⟨rfl, .returning, by rw [← hu], .tuple #[], ?_, rfl, rfl, rfl⟩
  simp [results, Tryz.results23]
set_option maxHeartbeats 1000000 in
set_option maxRecDepth 100000 in
/-- the deferred closure, where the reader panicked -/
theorem parse_caught (m er : Nat) (x0 y0 : Value) (w : World) (hm : w.cell? ⟨m, 0, none⟩ = some x0) (hmz : w.frozen? ⟨m, 0, none⟩ = false) (he : w.cell? ⟨er, 0, none⟩ = some y0) (hez : w.frozen? ⟨er, 0, none⟩ = false) (hne : er ≠ m) :
    CallsD Tryz.prog 23 #[.pointer (some ⟨m, 0, none⟩), .pointer (some ⟨er, 0, none⟩)] (.panicking [{ v := .iface 37 (.int .i64 3), recovered := false }]) w fun e u' w' =>
      e = .returned (.tuple #[]) ∧ u' = .panicking [{ v := .iface 37 (.int .i64 3), recovered := true }] ∧ w' = (w.setCell ⟨m, 0, none⟩ (.slice none 0 0)).setCell ⟨er, 0, none⟩ (.iface 37 (.int .i64 3)) := by
  refine callsD_of_wpS Tryz.func23 rfl fun c₀ cs hu => ?_
  apply wpS_seq
  apply wpS_region
  simp [wpOpsS, go_sem, recoverD, hu, Tryz.ntmps23, Exit.thenS]
  refine wpS_post ?_
  have hta : ∀ w : World, (Instr.typeAssert (.iface 37 (.int .i64 3)) 20 37 true).run Tryz.prog w = .ok (.tuple #[.int .i64 3, .bool true]) w := fun _ => by kernel_rfl
  change Code.wp _ _ _ ({ tmps := #[.pointer (some ⟨m, 0, none⟩), .pointer (some ⟨er, 0, none⟩), .iface 37 (.int .i64 3), undef, undef, .iface 37 (.int .i64 3), undef, undef, undef, undef, undef, undef, undef, undef, undef, undef, undef, undef], defers := [] } : Act) w
  go_wp2_with fail
  refine ⟨rfl, _, rfl, .tuple #[], ?_, rfl, rfl, rfl⟩
  simp [results, Tryz.results23]

def parseErr (s : List UInt8) : Int := if 2000 < s.length then 4 else match parse s with
  | some _ => 0
  | none => 3
def parseTree (s : List UInt8) : T := if 2000 < s.length then .nil else (parse s).getD .nil
def ParseOut (s : List UInt8) (w : World) (e : Ending) (w' : World) : Prop :=
  (∃ v, e = .returned (.tuple #[v, errVal (parseErr s)]) ∧ SVP (fun b => w.heap.size ≤ b) w' v (parseTree s)) ∧ Below w.heap.size w w'

theorem one_cell {w : World} {b : Nat} {v : Value} {t : TypeId} (h : w.heap[b]? = some (.cells #[v] t)) : w.cell? ⟨b, 0, none⟩ = some v ∧ w.frozen? ⟨b, 0, none⟩ = false := by
  constructor
  · simp [World.cell?, h]
  · simp [World.frozen?, h]

/-- the results of Parse, read from their cells -/
theorem parse_end {s : List UInt8} {w w2 : World} {mb : Nat} {a b : Value} {tmps : Array Value} (h2 : tmps[2]? = some (.pointer (some ⟨mb, 0, none⟩))) (h3 : tmps[3]? = some (.pointer (some ⟨mb + 1, 0, none⟩))) (y1 : w2.cell? ⟨mb, 0, none⟩ = some a) (y2 : w2.cell? ⟨mb + 1, 0, none⟩ = some b)
    (h : ParseOut s w (.returned (.tuple #[a, b])) w2) : Leaves Tryz.prog Tryz.f9 tmps (ParseOut s w) [] .returning w2 := by
  refine ⟨.tuple #[a, b], ?_, h⟩
  simp [results, Tryz.results9, go_sem, y1, y2, h2, h3]

set_option maxHeartbeats 2000000 in
set_option maxRecDepth 100000 in
theorem parse_any (s : List UInt8) (w : World) (hs : s.length ≤ 1000000000) (hm : MW w) :
    Calls Tryz.prog 9 #[.string ⟨s.toArray⟩] w (ParseOut s w) := by
  have hsz : (⟨s.toArray⟩ : ByteArray).size = s.length := sizeOf_mk s
  have hmf : ∀ (fn : Fn) (first cap : Array Value) (w : World), (Instr.makeFunc fn first cap).run Tryz.prog w = .ok (.func fn first cap) w := fun _ _ _ _ => rfl
  by_cases hl : 2000 < s.length
  · have HE := Lib.hid (show parseErr s = 4 by unfold parseErr; rw [if_pos hl])
    have HT := Lib.hid (show parseTree s = .nil by unfold parseTree; rw [if_pos hl])
    have hl2 : (2000 : Int) < s.length := by omega
    have HB := Lib.hid (Joins.below_alloc2 w (.cells #[.slice none 0 0] 22) (.cells #[.iface 37 (.int .i64 4)] 25))
    go_enter_defers Tryz.func9, Tryz.ntmps9
    go_wp2_with fail
    refine ⟨.tuple #[.slice none 0 0, .iface 37 (.int .i64 4)], ?_, ⟨_, by rw [HE.out]; rfl, by rw [HT.out]; exact SVP.nil _ _⟩, HB.out⟩
    simp [results, Tryz.results9, go_sem]
  · have hl2 : ¬ (2000 : Int) < s.length := by omega
    have HM := Lib.hid hm
    have HL := Lib.hid hl
    clear hm hl
    go_enter_defers Tryz.func9, Tryz.ntmps9
    go_wp2_with fail
    have hb0 := Joins.below_alloc3 w (.cells #[.slice none 0 0] 22) (.cells #[.nilIface] 25) (.cells #[.string ⟨s.toArray⟩, .int .i64 0] 56)
    have hA0 : At (((w.alloc (.cells #[.slice none 0 0] 22)).alloc (.cells #[.nilIface] 25)).alloc (.cells #[.string ⟨s.toArray⟩, .int .i64 0] 56)) (w.heap.size + 1 + 1) s ((0 : Nat) : Int) := by
      have h := Go.heap_alloc_new ((w.alloc (.cells #[.slice none 0 0] 22)).alloc (.cells #[.nilIface] 25)) (.cells #[.string ⟨s.toArray⟩, .int .i64 0] 56)
      simpa [At] using h
    have hme : (((w.alloc (.cells #[.slice none 0 0] 22)).alloc (.cells #[.nilIface] 25)).alloc (.cells #[.string ⟨s.toArray⟩, .int .i64 0] 56)).heap[w.heap.size]? = some (.cells #[.slice none 0 0] 22) := by
      rw [Go.heap_alloc_old _ _ (by simp; omega), Go.heap_alloc_old _ _ (by simp)]; exact Go.heap_alloc_new w _
    have hee : (((w.alloc (.cells #[.slice none 0 0] 22)).alloc (.cells #[.nilIface] 25)).alloc (.cells #[.string ⟨s.toArray⟩, .int .i64 0] 56)).heap[w.heap.size + 1]? = some (.cells #[.nilIface] 25) := by
      rw [Go.heap_alloc_old _ _ (by simp)]
      have h := Go.heap_alloc_new (w.alloc (.cells #[.slice none 0 0] 22)) (.cells #[.nilIface] 25)
      simpa using h
    have hs0 : (((w.alloc (.cells #[.slice none 0 0] 22)).alloc (.cells #[.nilIface] 25)).alloc (.cells #[.string ⟨s.toArray⟩, .int .i64 0] 56)).heap.size = w.heap.size + 3 := by simp
    generalize ((w.alloc (.cells #[.slice none 0 0] 22)).alloc (.cells #[.nilIface] 25)).alloc (.cells #[.string ⟨s.toArray⟩, .int .i64 0] 56) = w0 at *
    obtain ⟨mb, hmb⟩ : ∃ mb, mb = w.heap.size := ⟨_, rfl⟩
    have HMB := Lib.hid hmb
    rw [← hmb] at hme hee hs0 hA0 ⊢
    clear hmb
    have HG := Lib.hid (rmsg_any 100000 (by omega) s 0 false (mb + 1 + 1) w0 (by have := HL.out; omega) (by omega) hA0)
    clear hA0
    refine HG.out.mono ?_
    rintro e w1 ⟨hg1, hr⟩
    rw [if_pos (by omega)] at hr
    have hm1 : w1.heap[mb]? = _ := block_on hme hg1 (by omega)
    have he1 : w1.heap[mb + 1]? = _ := block_on hee hg1 (by omega)
    have hB1 : Below w.heap.size w w1 := below_grown hb0 hg1 (fun k hk => by cases hk; have := HMB.out; omega) (by have := HMB.out; omega)
    have hs1 : mb + 3 ≤ w1.heap.size := by have := hg1.size; omega
    have HB1 := Lib.hid hB1
    clear hg1 HG hme hee hb0 hB1
    cases hN : NN 0 false s with
    | none =>
      rw [hN] at hr
      obtain ⟨rfl, s', d', _⟩ := hr
      have HE := Lib.hid (show parseErr s = 3 by unfold parseErr parse; rw [if_neg HL.out, hN])
      have HT := Lib.hid (show parseTree s = .nil by unfold parseTree parse; rw [if_neg HL.out, hN]; rfl)
      clear hN
      unfold formP
      go_wp2_with fail
      refine leaves_cons (f := 23) (args := #[.pointer (some ⟨mb, 0, none⟩), .pointer (some ⟨mb + 1, 0, none⟩)]) (by simp) (by simp [go_sem]) ?_
      refine (parse_caught mb (mb + 1) _ _ w1 (one_cell hm1).1 (one_cell hm1).2 (one_cell he1).1 (one_cell he1).2 (by omega)).mono ?_
      rintro e u' w2 ⟨rfl, rfl, hw2⟩
      have hB2 := Lib.hid (show Below w.heap.size w w2 by rw [hw2]; exact (HB1.out.setCell (by show _ ≤ mb; have := HMB.out; omega) _).setCell (by show _ ≤ mb + 1; have := HMB.out; omega) _)
      have y1 : w2.cell? ⟨mb, 0, none⟩ = some (.slice none 0 0) := by
        rw [hw2, World.cell?_setCell_other _ _ _ _ (by simp), World.cell?_setCell_same _ _ _ (one_cell hm1).1]
      have y2 : w2.cell? ⟨mb + 1, 0, none⟩ = some (.iface 37 (.int .i64 3)) := by
        rw [hw2]
        exact World.cell?_setCell_same _ _ _ (by rw [World.cell?_setCell_other _ _ _ _ (by simp)]; exact (one_cell he1).1)
      exact parse_end (mb := mb) rfl rfl y1 y2 ⟨⟨_, by rw [HE.out]; rfl, by rw [HT.out]; exact SVP.nil _ _⟩, hB2.out⟩
    | some p =>
      obtain ⟨t, r⟩ := p
      rw [hN] at hr
      obtain ⟨v, rfl, hv, hAr⟩ := hr
      obtain ⟨va, vn, vc, rfl⟩ := hv.form
      have m1 := (one_cell hm1).1; have m2 := (one_cell hm1).2; have m3 := (one_cell he1).1; have m4 := (one_cell he1).2
      have r1 := hAr.c0
      have HV := Lib.hid hv
      have HN := Lib.hid hN
      have hB2 := Lib.hid (HB1.out.setCell (p := ⟨mb, 0, none⟩) (by show _ ≤ mb; have := HMB.out; omega) (.slice va vn vc))
      clear hv hN hAr hm1 he1
      cases r with
      | cons r0 rr =>
        have HE := Lib.hid (show parseErr s = 3 by unfold parseErr parse; rw [if_neg HL.out, HN.out])
        have HT := Lib.hid (show parseTree s = .nil by unfold parseTree parse; rw [if_neg HL.out, HN.out]; rfl)
        go_wp2_with fail
        refine leaves_cons (f := 23) (args := #[.pointer (some ⟨mb, 0, none⟩), .pointer (some ⟨mb + 1, 0, none⟩)]) (by simp) (by simp [go_sem]) ?_
        refine (parse_idle _ _ _).mono ?_
        rintro e u' w9 ⟨rfl, rfl, rfl⟩
        refine parse_end (mb := mb) rfl rfl (a := .slice none 0 0) (b := .iface 37 (.int .i64 3)) ?_ ?_ ⟨⟨_, by rw [HE.out]; rfl, by rw [HT.out]; exact SVP.nil _ _⟩, ?_⟩
        · rw [World.cell?_setCell_other _ _ _ _ (by simp)]
          exact World.cell?_setCell_same _ _ _ (World.cell?_setCell_same _ _ _ m1)
        · exact World.cell?_setCell_same _ _ _ (by rw [World.cell?_setCell_other _ _ _ _ (by simp), World.cell?_setCell_other _ _ _ _ (by simp)]; exact m3)
        · exact (hB2.out.setCell (by show _ ≤ mb; have := HMB.out; omega) _).setCell (by show _ ≤ mb + 1; have := HMB.out; omega) _
      | nil =>
        obtain ⟨g1, _, g3⟩ := NN_good HN.out
        have hck := mcheck_any t (.slice va vn vc) (w1.setCell ⟨mb, 0, none⟩ (.slice va vn vc)) g1 (by have := HL.out; omega) (HM.out.below hB2.out) (SVP.sv (SVP.keep (W' := w1.setCell ⟨mb, 0, none⟩ (.slice va vn vc)) (fun b _ hp => heap_setCell_other w1 ⟨mb, 0, none⟩ b _ (by show b ≠ mb; omega)) HV.out))
        have HV2 := Lib.hid (SVP.keep (W' := w1.setCell ⟨mb, 0, none⟩ (.slice va vn vc)) (fun b _ hp => heap_setCell_other w1 ⟨mb, 0, none⟩ b _ (by show b ≠ mb; omega)) HV.out)
        have z1 : (w1.setCell ⟨mb, 0, none⟩ (.slice va vn vc)).cell? ⟨mb, 0, none⟩ = some (.slice va vn vc) := World.cell?_setCell_same _ _ _ m1
        have z2 : (w1.setCell ⟨mb, 0, none⟩ (.slice va vn vc)).cell? ⟨mb + 1, 0, none⟩ = some .nilIface := by rw [World.cell?_setCell_other _ _ _ _ (by simp)]; exact m3
        have z3 : (w1.setCell ⟨mb, 0, none⟩ (.slice va vn vc)).frozen? ⟨mb, 0, none⟩ = false := by rw [World.frozen?_setCell]; exact m2
        have z4 : (w1.setCell ⟨mb, 0, none⟩ (.slice va vn vc)).frozen? ⟨mb + 1, 0, none⟩ = false := by rw [World.frozen?_setCell]; exact m4
        have hs2 : mb + 3 ≤ (w1.setCell ⟨mb, 0, none⟩ (.slice va vn vc)).heap.size := by simpa using hs1
        go_wp2_with fail
        clear HV g1 g3 m1 m2 m3 m4 r1
        generalize w1.setCell ⟨mb, 0, none⟩ (.slice va vn vc) = w2 at *
        by_cases hf : fault t = 0
        · have HE := Lib.hid (show parseErr s = 0 by unfold parseErr parse; rw [if_neg HL.out, HN.out]; simp only [hf, if_true])
          have HT := Lib.hid (show parseTree s = t by unfold parseTree parse; rw [if_neg HL.out, HN.out]; simp only [hf, if_true]; rfl)
          rw [hf, errVal_0] at hck
          clear hf
          have HCK := Lib.hid hck; clear hck
          refine HCK.out.mono ?_
          rintro e w3 ⟨rfl, hb3⟩
          obtain ⟨bc, bf⟩ := bcell hb3
          have k1 := (bc mb 0 (by omega)).trans z1; have k2 := (bc (mb + 1) 0 (by omega)).trans z2
          have k3 := (bf mb 0 (by omega)).trans z3; have k4 := (bf (mb + 1) 0 (by omega)).trans z4
          have hB3 := Lib.hid (hB2.out.trans (hb3.mono hB2.out.size))
          have HV3 := Lib.hid (SVP.keep (W' := w3) (fun b hb _ => hb3.block b hb) HV2.out)
          clear hb3 bc bf z1 z2 z3 z4
          go_wp2_with fail
          refine leaves_cons (f := 23) (args := #[.pointer (some ⟨mb, 0, none⟩), .pointer (some ⟨mb + 1, 0, none⟩)]) (by simp) (by simp [go_sem]) ?_
          refine (parse_idle _ _ _).mono ?_
          rintro e u' w9 ⟨rfl, rfl, rfl⟩
          refine parse_end (mb := mb) rfl rfl (a := .slice va vn vc) (b := .nilIface) ?_ ?_ ⟨⟨_, by rw [HE.out]; rfl, ?_⟩, ?_⟩
          · rw [World.cell?_setCell_other _ _ _ _ (by simp)]
            exact World.cell?_setCell_same _ _ _ k1
          · exact World.cell?_setCell_same _ _ _ (by rw [World.cell?_setCell_other _ _ _ _ (by simp)]; exact k2)
          · rw [HT.out]
            refine SVP.mono (fun b _ hp => by have := HMB.out; omega) (SVP.keep (W := w3) (fun b _ hp => ?_) HV3.out)
            rw [heap_setCell_other _ ⟨mb + 1, 0, none⟩ b _ (by show b ≠ mb + 1; omega), heap_setCell_other _ ⟨mb, 0, none⟩ b _ (by show b ≠ mb; omega)]
          · exact (hB3.out.setCell (by show _ ≤ mb; have := HMB.out; omega) _).setCell (by show _ ≤ mb + 1; have := HMB.out; omega) _
        · have HE := Lib.hid (show parseErr s = 3 by unfold parseErr parse; rw [if_neg HL.out, HN.out]; simp only [hf, if_false])
          have HT := Lib.hid (show parseTree s = .nil by unfold parseTree parse; rw [if_neg HL.out, HN.out]; simp only [hf, if_false]; rfl)
          rw [errVal_no hf] at hck
          generalize fault t = q at hck
          clear hf
          have HCK := Lib.hid hck; clear hck
          refine HCK.out.mono ?_
          rintro e w3 ⟨rfl, hb3⟩
          obtain ⟨bc, bf⟩ := bcell hb3
          have k1 := (bc mb 0 (by omega)).trans z1; have k2 := (bc (mb + 1) 0 (by omega)).trans z2
          have k3 := (bf mb 0 (by omega)).trans z3; have k4 := (bf (mb + 1) 0 (by omega)).trans z4
          have hB3 := Lib.hid (hB2.out.trans (hb3.mono hB2.out.size))
          clear hb3 bc bf z1 z2 z3 z4
          go_wp2_with fail
          refine leaves_cons (f := 23) (args := #[.pointer (some ⟨mb, 0, none⟩), .pointer (some ⟨mb + 1, 0, none⟩)]) (by simp) (by simp [go_sem]) ?_
          refine (parse_idle _ _ _).mono ?_
          rintro e u' w9 ⟨rfl, rfl, rfl⟩
          refine parse_end (mb := mb) rfl rfl (a := .slice none 0 0) (b := .iface 37 (.int .i64 3)) ?_ ?_ ⟨⟨_, by rw [HE.out]; rfl, by rw [HT.out]; exact SVP.nil _ _⟩, ?_⟩
          · rw [World.cell?_setCell_other _ _ _ _ (by simp)]
            exact World.cell?_setCell_same _ _ _ k1
          · exact World.cell?_setCell_same _ _ _ (by rw [World.cell?_setCell_other _ _ _ _ (by simp)]; exact k2)
          · exact (hB3.out.setCell (by show _ ≤ mb; have := HMB.out; omega) _).setCell (by show _ ≤ mb + 1; have := HMB.out; omega) _
end Go.Proofs.YtgkphpjnfigjiaaGreatDoor
