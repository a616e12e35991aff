/-
  rule.ranged, rule.related, rule.Text and what they call: the text of a right rule.
  rule.Text: the text of a right rule; rule.check of a right rule.
  rule.check of a right rule; rule.Text of it.
-/
import Derived.Test.YtnefcilopgcdpaaGreatDoorJoinF
import Derived.Test.YtnefcilopgcdpaaGreatDoorIdxF
import Derived.Lib.QuietBelow
import Derived.Lib.ItoaLen
import Derived.Test.YtnefcilopgcdpaaGreatDoorKey
namespace Go.Proofs.YtnefcilopgcdpaaGreatDoor
open Go.RowKit Go.Sort

/-- a range whose numbers are told in few digits -/
def rngOk (p : Int × Int) : Prop := (-1000000000 ≤ p.1 ∧ p.1 ≤ 1000000000) ∧ -1000000000 ≤ p.2 ∧ p.2 ≤ 1000000000
theorem rngText_len {p : Int × Int} (h : rngOk p) : (rngText p).length ≤ 50 := by
  unfold rngText
  obtain ⟨h1, h2⟩ := h
  have a := Lib.itoa_length_le p.1 (by omega) (by omega)
  have b := Lib.itoa_length_le p.2 (by omega) (by omega)
  split
  · omega
  · simp only [List.length_append, List.length_cons, List.length_nil]; omega
set_option maxHeartbeats 1000000 in
theorem ranged_any (p : Int × Int) (w : World) (h : rngOk p) (hm : MW w) :
    Calls Tryz.prog 178 #[.agg #[.int .i64 p.1, .int .i64 p.2]] w fun e w' => e = .returned (.string ⟨(rngText p).toArray⟩) ∧ Below w.heap.size w w' := by
  obtain ⟨a, b⟩ := p
  obtain ⟨h1, h2⟩ := h
  simp only at h1 h2
  obtain ⟨T, hT⟩ : ∃ T, T = rngText (a, b) := ⟨_, rfl⟩
  rw [← hT]
  have HT := Lib.hid hT
  have HB := Lib.hid ((Below.refl w.heap.size w).alloc (Nat.le_refl _) (Obj.cells #[Value.int IntKind.i64 a, Value.int IntKind.i64 b] 237))
  have la := Lib.itoa_length_le a (by omega) (by omega)
  have lb := Lib.itoa_length_le b (by omega) (by omega)
  have HP := Lib.hid (hm.below HB.out)
  have H1 := Lib.hid (fun (W : World) (hp : MW W) => Tryz.itoa a (by omega) (by omega) W hp.pow)
  have H2 := Lib.hid (fun (W : World) (hp : MW W) => Tryz.itoa b (by omega) (by omega) W hp.pow)
  obtain ⟨A, hA⟩ : ∃ A, A = Lib.itoa a := ⟨_, rfl⟩
  obtain ⟨B, hB⟩ : ∃ B, B = Lib.itoa b := ⟨_, rfl⟩
  have hTe : T = if a = b then A else A ++ [46, 46] ++ B := by rw [hT, hA, hB]; rfl
  rw [← hA] at la H1
  rw [← hB] at lb H2
  have HTe := Lib.hid hTe
  clear hT hm hTe hA hB HT
  go_enter Tryz.func178, Tryz.ntmps178
  by_cases hab : a = b
  · have HE := Lib.hid (show T = A by rw [HTe.out, if_pos hab])
    subst hab
    clear HTe
    go_wp2_with fail
    refine (H1.out _ HP.out).mono ?_
    rintro e w1 ⟨rfl, hb⟩
    have HB1 := Lib.hid (HB.out.trans (hb.mono HB.out.size))
    clear hb
    go_wp2_with fail
    go_ret
    exact ⟨by rw [HE.out]; rfl, HB1.out⟩
  · have hab2 : (a == b) = false := by simpa using hab
    have HE := Lib.hid (show T = A ++ [46, 46] ++ B by rw [HTe.out, if_neg hab])
    clear HTe hab
    obtain ⟨W0, hW0⟩ : ∃ W0, W0 = w.alloc (Obj.cells #[Value.int IntKind.i64 a, Value.int IntKind.i64 b] 237) := ⟨_, rfl⟩
    have y0 : W0.cell? ⟨w.heap.size, 0, none⟩ = some (.int .i64 a) := by rw [hW0]; exact block_cell (Go.heap_alloc_new w _) rfl
    have y1 : W0.cell? ⟨w.heap.size, 1, none⟩ = some (.int .i64 b) := by rw [hW0]; exact block_cell (Go.heap_alloc_new w _) rfl
    have D1 : Hid (∀ (d : Nat) (os : Array Obj), Calls Tryz.prog 51 #[.int .i64 a] (grow (redrawn W0 d) os) fun e w'' => e = .returned (.string ⟨A.toArray⟩) ∧ ∃ p : Regrown, w'' = grow (redrawn W0 p.d) p.os) := Lib.hid fun d os =>
      Calls.regrown_of (H1.out _ (by rw [hW0]; exact HP.out.below (below_regrown _ d os)))
    have D2 : Hid (∀ (d : Nat) (os : Array Obj), Calls Tryz.prog 51 #[.int .i64 b] (grow (redrawn W0 d) os) fun e w'' => e = .returned (.string ⟨B.toArray⟩) ∧ ∃ p : Regrown, w'' = grow (redrawn W0 p.d) p.os) := Lib.hid fun d os =>
      Calls.regrown_of (H2.out _ (by rw [hW0]; exact HP.out.below (below_regrown _ d os)))
    have HB0 := Lib.hid (show Below w.heap.size w W0 by rw [hW0]; exact HB.out)
    have HW0 := Lib.hid hW0
    clear hW0
    go_upto_region 3 with fail
    rw [← HW0.out]
    have z0 := fun d os => cell_regrown y0 d os
    have z1 := fun d os => cell_regrown y1 d os
    have n1 : ¬ 9223372036854775807 < A.length + 2 := by omega
    have n2 : ¬ 9223372036854775807 < A.length + 2 + B.length := by omega
    refine wp_region_quiet_below (by kernel_rfl) (by kernel_rfl) ?_
    repeat (quiet_step (first | with_reducible exact D1.out _ _ | with_reducible exact D2.out _ _))
    refine wpQuiet_nil ?_
    intro _ hw'
    obtain ⟨⟨dq, osq⟩, hw''⟩ := hw'
    subst hw''
    have HB4 := Lib.hid (HB0.out.trans ((below_regrown W0 dq osq).mono HB0.out.size))
    clear y0 y1 z0 z1 D1 D2 n1 n2
    simp only []
    generalize grow (redrawn W0 dq) osq = W4 at HB4 ⊢
    go_wp2_with fail
    go_ret
    exact ⟨by rw [HE.out]; exact congrArg (fun b => Ending.returned (.string b)) (by apply ByteArray.ext; simp), HB4.out⟩

/-- a relation that is told in few bytes -/
structure ReOk (r : Re) : Prop where
  op : r.op ∈ opsL
  md : 0 ≤ r.md ∧ r.md ≤ 1000000
  len : r.rs.length ≤ 1000
  rs : ∀ p ∈ r.rs, rngOk p
theorem relText_len {r : Re} (h : ReOk r) : (relText r).length ≤ 100000 := by
  unfold relText
  have h1 := h.md
  have a := Lib.itoa_length_le r.md (by omega) (by omega)
  have j := join_len [44] 50 (r.rs.map rngText) (fun x hx => by
    obtain ⟨p, hp, rfl⟩ := List.mem_map.1 hx
    exact rngText_len (h.rs p hp))
  rw [List.length_map] at j
  have hl := h.len
  have e : (if r.md = 0 then ([] : List UInt8) else [32, 37, 32] ++ Lib.itoa r.md).length ≤ 24 := by
    split
    · simp
    · simp only [List.length_append, List.length_cons, List.length_nil]; omega
  have e2 : (if r.no = true then ([32, 33, 61, 32] : List UInt8) else [32, 61, 32]).length ≤ 4 := by split <;> simp
  simp only [List.length_append, List.length_cons, List.length_nil] at j ⊢
  omega
theorem enc_op {c : Nat} (h : c ∈ opsL) : Utf8.encode (c : Int) = ⟨#[UInt8.ofNat c]⟩ ∧ c < 128 := by
  have : ∀ c ∈ opsL, Utf8.encode (c : Int) = ⟨#[UInt8.ofNat c]⟩ ∧ c < 128 := by decide +kernel
  exact this c h
theorem getD_map {α β : Type} (f : α → β) (d : α) (d' : β) (l : List α) (i : Nat) (h : i < l.length) : (l.map f).getD i d' = f (l.getD i d) := by
  rw [List.getD_eq_getElem?_getD, List.getD_eq_getElem?_getD, List.getElem?_map, List.getElem?_eq_getElem h]; rfl
set_option maxHeartbeats 2000000 in
set_option maxRecDepth 100000 in
theorem related_any (r : Re) (v : Value) (w : World) (h : ReOk r) (hv : RngR w v r.rs) (hm : MW w) :
    Calls Tryz.prog 155 #[.agg #[.int .u8 r.op, .int .i64 r.md, .bool r.no, v]] w fun e w' => e = .returned (.string ⟨(relText r).toArray⟩) ∧ Below w.heap.size w w' := by
  obtain ⟨T, hT⟩ : ∃ T, T = relText r := ⟨_, rfl⟩
  rw [← hT]
  obtain ⟨a, c, rfl, hp⟩ := hv.places
  have hJ : ∀ W, Below w.heap.size w W → MW W → Calls Tryz.prog 177 #[.slice a r.rs.length c, .string ⟨#[44]⟩, .func (.func 178) #[] #[]] W fun e w' => e = .returned (.string ⟨(Lib.join (r.rs.map rngText) [44]).toArray⟩) ∧ Below W.heap.size W w' := by
    intro W hB hM
    have hW := (hv.below hB).places
    obtain ⟨a', c', he, hp'⟩ := hW
    simp only [Value.slice.injEq] at he
    obtain ⟨rfl, _, rfl⟩ := he
    have hj := joinedRng a c (fun i => r.rs.getD i (0, 0)) (r.rs.map rngText) ⟨#[44]⟩ W (by rw [List.length_map]; exact h.len) (by
        have j := join_len [44] 50 (r.rs.map rngText) (fun x hx => by
          obtain ⟨p, hp, rfl⟩ := List.mem_map.1 hx
          exact rngText_len (h.rs p hp))
        rw [List.length_map] at j
        have hl := h.len
        simp only [List.length_cons, List.length_nil] at j
        show (Lib.join (r.rs.map rngText) [44]).length ≤ _
        omega) (by rw [List.length_map]; exact hp') (by
        intro i hi W' hB'
        rw [List.length_map] at hi
        rw [getD_map rngText (0, 0) [] r.rs i hi]
        exact ranged_any _ W' (h.rs _ (by rw [List.getD_eq_getElem?_getD, List.getElem?_eq_getElem hi]; exact List.getElem_mem hi)) (hM.below hB'))
    rw [List.length_map] at hj
    exact hj
  obtain ⟨J, hJe⟩ : ∃ J, J = Lib.join (r.rs.map rngText) [44] := ⟨_, rfl⟩
  have hJl : J.length ≤ 60000 := by
    rw [hJe]
    have j := join_len [44] 50 (r.rs.map rngText) (fun x hx => by
      obtain ⟨p, hp, rfl⟩ := List.mem_map.1 hx
      exact rngText_len (h.rs p hp))
    rw [List.length_map] at j
    have hl := h.len
    simp only [List.length_cons, List.length_nil] at j
    omega
  rw [← hJe] at hJ
  obtain ⟨he, ho⟩ := enc_op h.op
  have hmd := h.md
  obtain ⟨op, md, no, rs⟩ := r
  simp only at *
  have la := Lib.itoa_length_le md (by omega) (by omega)
  have HB := Lib.hid ((Below.refl w.heap.size w).alloc (Nat.le_refl _) (Obj.cells #[Value.int IntKind.u8 op, Value.int IntKind.i64 md, Value.bool no, .slice a rs.length c] 203))
  have HM := Lib.hid (hm.below HB.out)
  have K0 := Lib.hid (Go.heap_alloc_new w (Obj.cells #[Value.int IntKind.u8 op, Value.int IntKind.i64 md, Value.bool no, .slice a rs.length c] 203))
  have H1 := Lib.hid (fun (W : World) (hp : MW W) => Tryz.itoa md (by omega) (by omega) W hp.pow)
  obtain ⟨I, hI⟩ : ∃ I, I = Lib.itoa md := ⟨_, rfl⟩
  rw [← hI] at la H1
  have hTe : T = ([UInt8.ofNat op] ++ (if md = 0 then [] else [32, 37, 32] ++ I) ++ (if no then [32, 33, 61, 32] else [32, 61, 32])) ++ J := by rw [hT, hJe, hI]; rfl
  have HT := Lib.hid hTe; have HJ := Lib.hid hJ; have HE := Lib.hid he
  clear hT hTe hJ hJe hI hv hp hm h he
  go_enter Tryz.func155, Tryz.ntmps155
  go_upto_if 10 with fail
  rw [HE.out]
  obtain ⟨S1, hS1⟩ : ∃ S1, S1 = [UInt8.ofNat op] ++ (if md = 0 then [] else [32, 37, 32] ++ I) := ⟨_, rfl⟩
  have hS1l : S1.length ≤ 30 := by
    rw [hS1]
    split
    · simp
    · simp only [List.length_append, List.length_cons, List.length_nil]; omega
  have HS1 := Lib.hid hS1
  rw [← hS1] at HT
  obtain ⟨bb, hbb⟩ : ∃ bb, bb = (md != 0) := ⟨_, rfl⟩
  rw [← hbb]
  have HBB := Lib.hid hbb
  have hsz : (w.alloc (Obj.cells #[Value.int IntKind.u8 op, Value.int IntKind.i64 md, Value.bool no, .slice a rs.length c] 203)).heap.size = w.heap.size + 1 := by simp
  generalize w.alloc (Obj.cells #[Value.int IntKind.u8 op, Value.int IntKind.i64 md, Value.bool no, .slice a rs.length c] 203) = w1 at *
  have hlt : w.heap.size < w1.heap.size := by omega
  have y1 : w1.cell? ⟨w.heap.size, 1, none⟩ = some (.int .i64 md) := block_cell K0.out rfl
  clear hS1 hbb hsz
  go_cut [3] from 11 (fun v3 wx => v3 = .string ⟨S1.toArray⟩ ∧ Hid (Below w1.heap.size w1 wx))
  case first =>
    cases bb with
    | true =>
      have hne : ¬ md = 0 := by have := HBB.out.symm; simpa using this
      have HS2 := Lib.hid (show S1 = [UInt8.ofNat op] ++ ([32, 37, 32] ++ I) by rw [HS1.out, if_neg hne])
      have hne2 : (md != 0) = true := by simpa using hne
      clear HS1 hne
      go_wp2_with fail
      refine (H1.out _ HM.out).mono ?_
      rintro e w2 ⟨rfl, hb⟩
      have HB2 := Lib.hid hb
      clear hb
      go_wp2_with fail
      go_meet
      case rel => exact ⟨congrArg Value.string (by rw [HS2.out]; apply ByteArray.ext; simp), HB2⟩
    | false =>
      have he0 : md = 0 := by have := HBB.out.symm; simpa using this
      have HS2 := Lib.hid (show S1 = [UInt8.ofNat op] by rw [HS1.out, if_pos he0]; simp)
      clear HS1 he0
      go_wp2_with fail
      go_meet
      case rel => exact ⟨by rw [HS2.out], Lib.hid (Below.refl _ _)⟩
  case rest =>
    obtain ⟨rfl, HB2⟩ := hcut
    clear HS1 HBB H1 y1
    have hk := (HB2.out.block _ hlt).trans K0.out
    have y2 : wc.cell? ⟨w.heap.size, 2, none⟩ = some (.bool no) := block_cell hk rfl
    have y3 : wc.cell? ⟨w.heap.size, 3, none⟩ = some (.slice a rs.length c) := block_cell hk rfl
    have HB3 := Lib.hid (HB.out.trans (HB2.out.mono HB.out.size))
    have HJ3 := Lib.hid (HJ.out wc HB3.out (HM.out.below HB2.out))
    clear hk HB2 K0 HJ
    cases no with
    | true =>
      have HT2 := Lib.hid (show T = (S1 ++ [32, 33, 61, 32]) ++ J from HT.out)
      clear HT
      go_wp2_with fail
      refine HJ3.out.mono ?_
      rintro e w4 ⟨rfl, hb⟩
      have HB4 := Lib.hid (HB3.out.trans (hb.mono HB3.out.size))
      clear hb
      go_wp2_with fail
      go_ret
      exact ⟨by rw [HT2.out]; exact congrArg (fun b => Ending.returned (.string b)) (by apply ByteArray.ext; simp), HB4.out⟩
    | false =>
      have HT2 := Lib.hid (show T = (S1 ++ [32, 61, 32]) ++ J from HT.out)
      clear HT
      go_wp2_with fail
      refine HJ3.out.mono ?_
      rintro e w4 ⟨rfl, hb⟩
      have HB4 := Lib.hid (HB3.out.trans (hb.mono HB3.out.size))
      clear hb
      go_wp2_with fail
      go_ret
      exact ⟨by rw [HT2.out]; exact congrArg (fun b => Ending.returned (.string b)) (by apply ByteArray.ext; simp), HB4.out⟩
end Go.Proofs.YtnefcilopgcdpaaGreatDoor
namespace Go.Proofs.YtnefcilopgcdpaaGreatDoor
open Go.RowKit Go.Sort

/-- a part that is told in few bytes -/
def PartOk (p : List Re) : Prop := p.length ≤ 1000 ∧ ∀ r ∈ p, ReOk r
theorem partText_len {p : List Re} (h : PartOk p) : (partText p).length ≤ 200000000 := by
  unfold partText
  have j := join_len [32, 97, 110, 100, 32] 100000 (p.map relText) (fun x hx => by
    obtain ⟨r, hr, rfl⟩ := List.mem_map.1 hx
    exact relText_len (h.2 r hr))
  rw [List.length_map] at j
  have := h.1
  simp only [List.length_cons, List.length_nil] at j
  omega
theorem mem_getD {α : Type} (l : List α) (d : α) (i : Nat) (h : i < l.length) : l.getD i d ∈ l := by
  rw [List.getD_eq_getElem?_getD, List.getElem?_eq_getElem h]; exact List.getElem_mem h
set_option maxHeartbeats 1000000 in
theorem text1_any (p : List Re) (v : Value) (w : World) (h : PartOk p) (hv : RelR w v p) (hm : MW w) :
    Calls Tryz.prog 153 #[v] w fun e w' => e = .returned (.string ⟨(partText p).toArray⟩) ∧ Below w.heap.size w w' := by
  obtain ⟨a, c, u, rfl, hu, hp⟩ := hv.places
  have hj := joinedRel a c (fun i => p.getD i reZ) u (p.map relText) ⟨#[32, 97, 110, 100, 32]⟩ w (by rw [List.length_map]; exact h.1) (fun i hi => (hu i (by rw [List.length_map] at hi; exact hi)).form) (by
      have := partText_len h
      unfold partText at this
      show (Lib.join (p.map relText) [32, 97, 110, 100, 32]).length ≤ _
      omega) (by rw [List.length_map]; exact hp) (by
      intro i hi W' hB'
      rw [List.length_map] at hi
      rw [getD_map relText reZ [] p i hi]
      exact related_any _ _ W' (h.2 _ (mem_getD p reZ i hi)) ((hu i hi).below hB') (hm.below hB'))
  rw [List.length_map] at hj
  have HJ := Lib.hid (show Calls Tryz.prog 154 #[.slice a p.length c, .string ⟨#[32, 97, 110, 100, 32]⟩, .func (.func 155) #[] #[]] w fun e w' => e = .returned (.string ⟨(partText p).toArray⟩) ∧ Below w.heap.size w w' from hj)
  clear hj hu hp hv h hm
  go_enter Tryz.func153, Tryz.ntmps153
  go_wp2_with fail
  refine HJ.out.mono ?_
  rintro e w1 ⟨rfl, hb⟩
  have HB := Lib.hid hb
  clear hb
  go_wp2_with fail
  go_ret
  exact ⟨rfl, HB.out⟩
/-! ### is it right? -/
set_option maxHeartbeats 1000000 in
theorem rfine1_any (p : Int × Int) (w : World) : Calls Tryz.prog 179 #[.agg #[.int .i64 p.1, .int .i64 p.2]] w fun e w' => e = .returned (.bool (rngBad p)) ∧ Below w.heap.size w w' := by
  obtain ⟨a, b⟩ := p
  have HB := Lib.hid ((Below.refl w.heap.size w).alloc (Nat.le_refl _) (Obj.cells #[Value.int IntKind.i64 a, Value.int IntKind.i64 b] 237))
  obtain ⟨z, hz⟩ : ∃ z, z = rngBad (a, b) := ⟨_, rfl⟩
  rw [← hz]
  have HZ := Lib.hid hz
  clear hz
  go_enter Tryz.func179, Tryz.ntmps179
  by_cases h1 : a < 0
  · have e1 : decide (a < 0) = true := by simpa using h1
    obtain rfl : z = true := by rw [HZ.out]; unfold rngBad; simp [h1]
    go_wp2_with fail
    go_ret
    exact ⟨rfl, HB.out⟩
  · have e1 : decide (a < 0) = false := by simpa using h1
    by_cases h2 : b < a
    · have e2 : decide (b < a) = true := by simpa using h2
      obtain rfl : z = true := by rw [HZ.out]; unfold rngBad; simp [h2]
      clear h1
      go_wp2_with fail
      go_ret
      exact ⟨rfl, HB.out⟩
    · have e2 : decide (b < a) = false := by simpa using h2
      have e3 : z = decide (1000000 < b) := by rw [HZ.out]; unfold rngBad; rw [e1, e2]; rfl
      have HE := Lib.hid e3
      clear e3 h1 h2
      go_wp2_with fail
      go_ret
      exact ⟨ret_bool HE.out.symm, HB.out⟩
set_option maxHeartbeats 2000000 in
set_option maxRecDepth 100000 in
theorem rfine_any (r : Re) (v : Value) (w : World) (h : relFine r = true) (hl : r.rs.length ≤ 1000) (hv : RngR w v r.rs) :
    Calls Tryz.prog 156 #[.agg #[.int .u8 r.op, .int .i64 r.md, .bool r.no, v]] w fun e w' => e = .returned (.bool true) ∧ Below w.heap.size w w' := by
  unfold relFine at h
  simp only [Bool.and_eq_true, decide_eq_true_eq, Bool.not_eq_true'] at h
  obtain ⟨⟨⟨⟨h1, h2⟩, h3⟩, h4⟩, h5⟩ := h
  have hop : r.op ∈ opsL := by simpa using h1
  obtain ⟨a, c, rfl, hp⟩ := hv.places
  have hC : ∀ W, Below w.heap.size w W → Calls Tryz.prog 159 #[.slice a r.rs.length c, .func (.func 179) #[] #[]] W fun e w' => e = .returned (.bool false) ∧ Below W.heap.size W w' := by
    intro W hB
    obtain ⟨a', c', he, hp'⟩ := (hv.below hB).places
    simp only [Value.slice.injEq] at he
    obtain ⟨rfl, _, rfl⟩ := he
    have hj := contRngFine a r.rs.length c (fun i => r.rs.getD i (0, 0)) (fun i => rngBad (r.rs.getD i (0, 0))) W (by omega) hp' (fun i hi W' hB' => rfine1_any _ W')
    rw [anyI_list rngBad (0, 0) r.rs 0 _ (fun j hj => by rw [Nat.zero_add]), h5] at hj
    exact hj
  have hi : ∀ W, Calls Tryz.prog 86 #[.string ⟨#[110, 105, 118, 119, 102, 116]⟩, .int .i32 r.op] W fun e w' => e = .returned (.bool true) ∧ w' = W := by
    intro W
    have h7 : r.op < 128 := (enc_op hop).2
    refine (Tryz.strings_ContainsRune_ascii ⟨#[110, 105, 118, 119, 102, 116]⟩ r.op W (by omega) (by omega)).mono ?_
    rintro e w' ⟨rfl, rfl⟩
    refine ⟨ret_bool ?_, rfl⟩
    have : ∀ c ∈ opsL, decide (0 ≤ Lib.indexByte [110, 105, 118, 119, 102, 116] ((c : Int).toNat.toUInt8)) = true := by decide
    exact this _ hop
  obtain ⟨op, md, no, rs⟩ := r
  simp only at *
  have hop2 : op < 128 := (enc_op hop).2
  have hle : ((rs.length : Int) == 0) = false := by
    rw [beq_eq_false_iff_ne]
    cases rs with
    | nil => simp at h4
    | cons p l => simp only [List.length_cons]; omega
  have HB := Lib.hid ((Below.refl w.heap.size w).alloc (Nat.le_refl _) (Obj.cells #[Value.int IntKind.u8 op, Value.int IntKind.i64 md, Value.bool no, .slice a rs.length c] 203))
  have HC := Lib.hid hC; have HI := Lib.hid hi
  clear hC hi hv hp h1 h4 h5 hop
  go_enter Tryz.func156, Tryz.ntmps156
  go_wp2_with fail
  refine (HI.out _).mono ?_
  rintro e w1 ⟨rfl, rfl⟩
  go_wp2_with fail
  refine (HC.out _ HB.out).mono ?_
  rintro e w2 ⟨rfl, hb⟩
  have HB2 := Lib.hid (HB.out.trans (hb.mono HB.out.size))
  clear hb
  go_wp2_with fail
  go_ret
  exact ⟨rfl, HB2.out⟩
end Go.Proofs.YtnefcilopgcdpaaGreatDoor
namespace Go.Proofs.YtnefcilopgcdpaaGreatDoor
open Go.RowKit Go.Sort

def cntR (r : List (List Re)) (i : Nat) : Nat := ((r.take i).map List.length).sum
theorem cntR_succ (r : List (List Re)) (i : Nat) (h : i < r.length) : cntR r (i + 1) = cntR r i + (r.getD i []).length := by
  unfold cntR
  rw [List.take_add_one, List.map_append, List.sum_append, List.getD_eq_getElem?_getD, List.getElem?_eq_getElem h]
  simp
theorem cntR_le (r : List (List Re)) : ∀ i, cntR r i ≤ (r.map List.length).sum := by
  induction r with
  | nil => intro i; simp [cntR]
  | cons p r ih =>
    intro i
    cases i with
    | zero => simp [cntR]
    | succ i =>
      have := ih i
      unfold cntR at this ⊢
      simp only [List.take_succ_cons, List.map_cons, List.sum_cons]
      omega
/-- a rule that is right and told in few bytes -/
def RuleOk (r : List (List Re)) : Prop := ruleFine r = true ∧ ∀ p ∈ r, PartOk p
theorem ruleOk_part {r : List (List Re)} (h : RuleOk r) {p : List Re} (hp : p ∈ r) : p ≠ [] ∧ ∀ x ∈ p, relFine x = true := by
  have h1 := h.1
  unfold ruleFine at h1
  simp only [Bool.and_eq_true, List.all_eq_true] at h1
  have h2 := h1.1.2 p hp
  unfold partFine at h2
  simp only [Bool.and_eq_true, List.all_eq_true, Bool.not_eq_true'] at h2
  refine ⟨?_, h2.2⟩
  intro e; subst e; simp at h2
theorem ruleOk_len {r : List (List Re)} (h : RuleOk r) : r ≠ [] ∧ (r.map List.length).sum ≤ 20 := by
  have h1 := h.1
  unfold ruleFine at h1
  simp only [Bool.and_eq_true, Bool.not_eq_true', decide_eq_true_eq] at h1
  refine ⟨?_, h1.2⟩
  intro e; subst e; simp at h1
theorem sum_ge : ∀ r : List (List Re), (∀ p ∈ r, p ≠ []) → r.length ≤ (r.map List.length).sum
  | [], _ => by simp
  | p :: r, h => by
    have h1 := sum_ge r (fun q hq => h q (.tail _ hq))
    have h2 := List.length_pos_iff.2 (h p (.head _))
    simp only [List.map_cons, List.sum_cons, List.length_cons]
    omega
theorem ruleOk_short {r : List (List Re)} (h : RuleOk r) : r.length ≤ 20 := by
  have h1 := sum_ge r (fun p hp => (ruleOk_part h hp).1)
  have h2 := (ruleOk_len h).2
  omega
theorem part_short {r : List (List Re)} (h : RuleOk r) (i : Nat) (hi : i < r.length) : (r.getD i []).length ≤ 20 := by
  have h1 := cntR_succ r i hi
  have h2 := cntR_le r (i + 1)
  have h3 := (ruleOk_len h).2
  omega
set_option maxHeartbeats 4000000 in
set_option maxRecDepth 100000 in
theorem rcheck_any (r : List (List Re)) (v : Value) (w : World) (h : RuleOk r) (hv : RuleR w v r) :
    Calls Tryz.prog 119 #[v] w fun e w' => e = .returned .nilIface ∧ Below w.heap.size w w' := by
  obtain ⟨a, c, u, rfl, hu, hp⟩ := hv.places
  have hsh := ruleOk_short h
  have hne := (ruleOk_len h).1
  have hn0 : 0 < r.length := List.length_pos_iff.2 hne
  rcases hp with h0 | ⟨g, o, rfl, hc⟩
  · omega
  · have hle : ((r.length : Int) == 0) = false := by rw [beq_eq_false_iff_ne]; omega
    obtain ⟨n, hn⟩ : ∃ n, r.length = n := ⟨_, rfl⟩
    rw [hn] at hu hc hsh hn0 hle ⊢
    have HU := Lib.hid hu; have HC := Lib.hid hc; have HN := Lib.hid hn; have HH := Lib.hid h
    clear hu hc hn h hv hne
    go_enter Tryz.func119, Tryz.ntmps119
    go_wp2_with fail
    go_loopw [3, 14] (fun x i wr => ∃ i' : Nat, i = .int .i64 i' ∧ i' ≤ n ∧ x = .int .i64 (cntR r i') ∧ Hid (Below w.heap.size w wr)) (fun _ i _ => n - (intOf i).toNat)
    case atStart => exact ⟨0, rfl, Nat.zero_le _, rfl, Lib.hid (Below.refl _ _)⟩
    case round =>
      obtain ⟨i, rfl, hi, rfl, HB⟩ := hrel
      have hct : cntR r i ≤ 20 := Nat.le_trans (cntR_le r i) (ruleOk_len HH.out).2
      by_cases hlt : i < n
      · have y0 := (HB.out.cell (p := ⟨g, o + i, none⟩) (cellLt (HC.out i hlt))).trans (HC.out i hlt)
        have hui := (HU.out i hlt).below HB.out
        obtain ⟨ua, uc, q, hue, hq, hqp⟩ := hui.places
        have hps := part_short HH.out i (by rw [HN.out]; exact hlt)
        have hmem := mem_getD r [] i (by rw [HN.out]; exact hlt)
        have hpne := (ruleOk_part HH.out hmem).1
        have hpf := (ruleOk_part HH.out hmem).2
        have hpl := List.length_pos_iff.2 hpne
        rw [hue] at y0
        have hsucc := cntR_succ r i (by rw [HN.out]; exact hlt)
        obtain ⟨p, hpe⟩ : ∃ p, p = r.getD i [] := ⟨_, rfl⟩
        rw [← hpe] at hq hqp hps hmem hpf hpl hsucc y0
        have hok := HH.out.2 p hmem
        rcases hqp with h0 | ⟨g2, o2, rfl, hc2⟩
        · omega
        · have hle2 : ((p.length : Int) == 0) = false := by rw [beq_eq_false_iff_ne]; omega
          obtain ⟨m, hm⟩ : ∃ m, p.length = m := ⟨_, rfl⟩
          rw [hm] at hq hc2 hps hpl hsucc hle2 y0
          obtain ⟨z0, z1, z2, z3⟩ := hc2 0 hpl
          rw [show o2 + 0 * 4 = o2 by omega] at z0 z1 z2 z3
          obtain ⟨sa, sm, sc, hse⟩ := (hq 0 hpl).form
          have hfn : ∀ j, j < m → ∀ W, Below wr.heap.size wr W → Calls Tryz.prog 156 #[.agg #[.int .u8 (p.getD j reZ).op, .int .i64 (p.getD j reZ).md, .bool (p.getD j reZ).no, q j]] W fun e w' => e = .returned (.bool true) ∧ Below W.heap.size W w' := by
            intro j hj W hW
            have hmj := mem_getD p reZ j (by omega)
            exact rfine_any (p.getD j reZ) (q j) W (hpf _ hmj) (hok.2 _ hmj).len ((hq j hj).below hW)
          have hf0 := hfn 0 hpl wr (Below.refl _ _)
          rw [hse] at z3 hf0
          have HF0 := Lib.hid hf0
          have HFn := Lib.hid hfn; have HC2 := Lib.hid hc2; have HQ := Lib.hid hq; have HS := Lib.hid hsucc; have HM := Lib.hid hm
          clear hf0 hfn hc2 hq hsucc hm hse hpe hpne hmem hpf hok hue hui
          go_upto_if 27 with (go_at_call 156; refine HF0.out.mono ?_; rintro e w1 ⟨rfl, hb⟩; have HB1 := Lib.hid (HB.out.trans (hb.mono HB.out.size)); have HBr := Lib.hid hb; clear hb)
          go_wp2_with fail
          obtain ⟨wo, hwo⟩ : ∃ wo : World, wo = wr := ⟨_, rfl⟩
          rw [← hwo] at HF0 HFn HC2 HQ HBr HB
          clear hwo
          clear z0 z1 z2 z3 y0 hle2 HF0 hle
          go_loopw [3, 31] (fun x j wr => ∃ j' : Nat, j = .int .i64 j' ∧ j' ≤ m ∧ x = .int .i64 ((cntR r i + j' : Nat) : Int) ∧ Hid (Below wo.heap.size wo wr)) (fun _ j _ => m - (intOf j).toNat)
          case atStart => exact ⟨0, rfl, Nat.zero_le _, rfl, HBr⟩
          case round =>
            clear HBr HB1
            obtain ⟨j, rfl, hj, rfl, HBi⟩ := hrel
            by_cases hjl : j < m
            · obtain ⟨z0, z1, z2, z3⟩ := HC2.out j hjl
              have q0 := (HBi.out.cell (p := ⟨g2, o2 + j * 4, none⟩) (cellLt z0)).trans z0
              have q1 := (HBi.out.cell (p := ⟨g2, o2 + j * 4 + 1, none⟩) (cellLt z1)).trans z1
              have q2 := (HBi.out.cell (p := ⟨g2, o2 + j * 4 + 2, none⟩) (cellLt z2)).trans z2
              have q3 := (HBi.out.cell (p := ⟨g2, o2 + j * 4 + 3, none⟩) (cellLt z3)).trans z3
              obtain ⟨ja, jm, jc, hse⟩ := (HQ.out j hjl).form
              have hfj := fun W hW => HFn.out j hjl W hW
              rw [hse] at q3 hfj
              have HFj := Lib.hid hfj
              clear z0 z1 z2 z3 hfj hse
              obtain ⟨R, hR⟩ : ∃ R, R = p.getD j reZ := ⟨_, rfl⟩
              rw [← hR] at q0 q1 q2 HFj
              clear hR
              have HB3 := Lib.hid (HBi.out.alloc HBi.out.size (Obj.cells #[Value.int IntKind.u8 R.op, Value.int IntKind.i64 R.md, Value.bool R.no, .slice ja jm jc] 203))
              have HF3 := Lib.hid (HFj.out _ HB3.out)
              have hcs : cntR r i + m ≤ 20 := by
                have h1 := HS.out
                have h2 := cntR_le r (i + 1)
                have h3 := (ruleOk_len HH.out).2
                omega
              clear HFj
              go_wp2_with fail
              refine HF3.out.mono ?_
              rintro e w4 ⟨rfl, hb⟩
              have HB4 := Lib.hid (HB3.out.trans (hb.mono HB3.out.size))
              clear hb q0 q1 q2 q3
              go_wp2_with fail
              go_roundw
              case rel => exact ⟨j + 1, by go_num, by omega, by go_num, HB4⟩
              case measure => simp [intOf]; omega
            · obtain rfl : j = m := by omega
              go_wp2_with fail
              go_roundw
              case rel => exact ⟨i + 1, by go_num, by omega, by rw [HS.out], Lib.hid (HB.out.trans (HBi.out.mono HB.out.size))⟩
              case measure => simp [intOf]; omega
      · obtain rfl : i = n := by omega
        have hct2 : decide ((20 : Int) < (cntR r i : Int)) = false := decide_eq_false (by omega)
        have hct3 : decide (20 < cntR r i) = false := decide_eq_false (by omega)
        go_wp2_with fail
        go_ret
        exact ⟨rfl, HB.out⟩
end Go.Proofs.YtnefcilopgcdpaaGreatDoor
