/-
  dpat.Check, Format's closure, dpat.Format.
-/
import Derived.Test.YtmaccmhpcagcnaaGreatDoorPcs
import Derived.Test.YtmaccmhpcagcnaaGreatDoorDig
namespace Go.Proofs.YtmaccmhpcagcnaaGreatDoor
open Go.Shelf Go.RowKit Go.Lib

theorem check1_any (v : Value) (t : ByteArray) (W : World) : Calls Tryz.prog 20 #[v, .string t] W fun e w' => e = .returned (.tuple #[]) ∧ Below W.heap.size W w' := by
  go_enter Tryz.func20, Tryz.ntmps20
  go_wp2_with fail
  all_goals
    go_end0
    exact ⟨rfl, (Below.refl _ _).alloc (Nat.le_refl _) _⟩

theorem nilFn (W : World) : (Go.binOp BinOp.neq 41 .nilFunc .nilFunc).run Tryz.prog W = .ok (.bool false) W := by kernel_rfl
theorem someFn (g : Nat) (cap : Array Value) (W : World) : (Go.binOp BinOp.neq 41 (.func (.func g) #[] cap) .nilFunc).run Tryz.prog W = .ok (.bool true) W := by kernel_rfl
set_option maxRecDepth 100000 in
theorem dcheck_any (s : ByteArray) (w : World) (hs : s.size ≤ 100000000) (hM : MaxAt w) :
    Calls Tryz.prog 7 #[.string s] w fun e w' => e = .returned (pcsOut (Dp.pp s.data.toList).2) ∧ Below w.heap.size w w' := by
  have hT : Tells 20 #[] (fun _ W => Below w.heap.size w W) (Dp.pp s.data.toList).1 := by
    intro ts p q v t W _ hI _
    exact (check1_any v t W).mono fun _ _ h => ⟨h.1, hI.trans (h.2.mono hI.size)⟩
  have HC := Lib.hid (pieces_any 20 #[] (fun _ W => Below w.heap.size w W) s w hs (fun _ _ => rfl) (Below.refl _ _) (fun _ W h => hM.below h) (fun _ _ _ h hb => h.trans (hb.mono h.size)) hT)
  clear hT hM
  have hmf : ∀ (fn : Fn) (first cap : Array Value) (w : World), (Instr.makeFunc fn first cap).run Tryz.prog w = .ok (.func fn first cap) w := fun _ _ _ _ => rfl
  go_enter Tryz.func7, Tryz.ntmps7
  go_wp2_with fail
  refine HC.out.mono ?_
  rintro e w1 ⟨rfl, hb1⟩
  have Hb1 := Lib.hid hb1; clear hb1
  go_wp2_with fail
  go_ret
  exact ⟨rfl, Hb1.out⟩

set_option maxHeartbeats 1000000 in
set_option maxRecDepth 100000 in
theorem fmt1_txt (t : ByteArray) (pd : Addr) (b : Nat) (bs : List Value) (W : World) (hI : Lib.IsBuilderF 39 5 b b bs W) (hb : b < W.heap.size) (hl : bs.length + t.size ≤ 140737488355328) :
    Calls Tryz.prog 11 #[zeroF, .string t, .pointer (some pd), .pointer (some ⟨b, 0, none⟩)] W fun e w' => e = .returned (.tuple #[]) ∧ Lib.IsBuilderF 39 5 b b (bs ++ Lib.byteCells t.data.toList) w' ∧ Below b W w' := by
  unfold zeroF
  have hb0 : Below W.heap.size W (W.alloc (.cells #[.nilFunc, .int .i64 0] 43)) := (Below.refl _ _).alloc (Nat.le_refl _) _
  have hw := Tryz.writeString b b bs t _ (builder_below hI hb0) hl (by simp; omega)
  have HW := Lib.hid hw; have Hb := Lib.hid hb; have Hb0 := Lib.hid hb0
  have hn := nilFn
  clear hw hb hb0 hI
  go_enter Tryz.func11, Tryz.ntmps11
  go_wp2_with fail
  refine HW.out.mono ?_
  rintro e w1 ⟨rfl, h1, hb1, _⟩
  have Hb1 := Lib.hid hb1; have H1 := Lib.hid h1; clear hb1 h1
  go_wp2_with fail
  go_end0
  exact ⟨rfl, Or.inr H1.out, (Hb0.out.mono (Nat.le_of_lt Hb.out)).trans Hb1.out⟩

set_option maxHeartbeats 1000000 in
set_option maxRecDepth 100000 in
theorem fmt1_fld (g : Nat) (cap : Array Value) (n : Nat) (x : Int) (bd b : Nat) (y m d : Int) (bs : List Value) (W : World) (hI : Lib.IsBuilderF 39 5 b b bs W) (hb : b < W.heap.size) (hl : bs.length ≤ 10000000000)
    (eg : ∀ args W, (callFunc g args).run Tryz.prog W = .ok (.enter g args) W)
    (hx0 : 0 ≤ x) (hx1 : x ≤ 1000000) (hn : n ≤ 100) (hP : Pow10At W) (hbd : bd < b)
    (c0 : W.cell? ⟨bd, 0, none⟩ = some (.int .i64 y)) (c1 : W.cell? ⟨bd, 1, none⟩ = some (.int .i64 m)) (c2 : W.cell? ⟨bd, 2, none⟩ = some (.int .i64 d))
    (hF : ∀ W', Below W.heap.size W W' → Calls Tryz.prog g (#[.agg #[.int .i64 y, .int .i64 m, .int .i64 d]] ++ cap) W' fun e w' => e = .returned (.int .i64 x) ∧ Below W'.heap.size W' w') :
    Calls Tryz.prog 11 #[.agg #[.func (.func g) #[] cap, .int .i64 n], .string ⟨#[]⟩, .pointer (some ⟨bd, 0, none⟩), .pointer (some ⟨b, 0, none⟩)] W fun e w' => e = .returned (.tuple #[]) ∧ Lib.IsBuilderF 39 5 b b (bs ++ Lib.byteCells (padTo n x)) w' ∧ Below b W w' := by
  have hb0 : Below W.heap.size W (W.alloc (.cells #[.func (.func g) #[] cap, .int .i64 n] 43)) := (Below.refl _ _).alloc (Nat.le_refl _) _
  have k0 : (W.alloc (.cells #[.func (.func g) #[] cap, .int .i64 n] 43)).cell? ⟨bd, 0, none⟩ = some (.int .i64 y) := by rw [hb0.cell (p := ⟨_, _, none⟩) (by simp; omega)]; exact c0
  have k1 : (W.alloc (.cells #[.func (.func g) #[] cap, .int .i64 n] 43)).cell? ⟨bd, 1, none⟩ = some (.int .i64 m) := by rw [hb0.cell (p := ⟨_, _, none⟩) (by simp; omega)]; exact c1
  have k2 : (W.alloc (.cells #[.func (.func g) #[] cap, .int .i64 n] 43)).cell? ⟨bd, 2, none⟩ = some (.int .i64 d) := by rw [hb0.cell (p := ⟨_, _, none⟩) (by simp; omega)]; exact c2
  have HI := fun (W' : World) (h : Below (W.heap.size) W W') => builder_below hI h
  have HF := Lib.hid (hF _ hb0)
  have HP := Lib.hid hP; have Hb0 := Lib.hid hb0; have HI' := Lib.hid HI
  have hit := fun W' (h : Below W.heap.size W W') => itoa_any x W' hx0 hx1 (hP.below h)
  have hlen := Lib.itoa_length_le x (by omega) (by omega)
  unfold padTo
  generalize Lib.itoa x = l at hit hlen ⊢
  have HT := Lib.hid hit
  have HR := Lib.hid (rep_any (n - l.length) (by omega))
  have hmax : max 0 ((n : Int) - (l.length : Int)) = ((n - l.length : Nat) : Int) := by omega
  have Hb := Lib.hid hb
  have hnf := someFn g cap
  clear c0 c1 c2 hb0 hI HI hF hP hit hb
  go_enter Tryz.func11, Tryz.ntmps11
  go_wp2_with fail
  refine HF.out.mono ?_
  rintro e w1 ⟨rfl, hb1⟩
  have Hb1 := Lib.hid (Hb0.out.trans (hb1.mono Hb0.out.size)); 
  have j1 : w1.cell? ⟨W.heap.size, 1, none⟩ = some (.int .i64 (n : Int)) := by
    rw [hb1.cell (p := ⟨_, _, none⟩) (by simp)]; simp
  have hs1 := hb1.size
  simp only [World.size_alloc] at hs1
  clear hb1
  go_wp2_with fail
  refine (HT.out _ Hb1.out).mono ?_
  rintro e w2 ⟨rfl, hb2⟩
  have Hb2 := Lib.hid (Hb1.out.trans (hb2.mono Hb1.out.size))
  have j2 : w2.cell? ⟨W.heap.size, 1, none⟩ = some (.int .i64 (n : Int)) := by
    rw [hb2.cell (p := ⟨_, _, none⟩) (by simp; omega)]; exact j1
  clear hb2 j1
  go_wp2_with fail
  refine (HR.out _).mono ?_
  rintro e w3 ⟨rfl, hb3⟩
  have Hb3 := Lib.hid (Hb2.out.trans (hb3.mono Hb2.out.size))
  clear hb3 j2
  go_wp2_with fail
  rw [cat_list]
  have HW := Tryz.writeString b b bs ⟨(List.replicate (n - l.length) 48 ++ l).toArray⟩ _ (HI'.out _ Hb3.out) (by rw [sz_mk, List.length_append, List.length_replicate]; omega) (Nat.le_trans (Nat.le_of_lt Hb.out) Hb3.out.size)
  refine HW.mono ?_
  rintro e w4 ⟨rfl, h4, hb4, _⟩
  have Hb4 := Lib.hid hb4; have H4 := Lib.hid h4; clear hb4 h4 HW
  go_wp2_with fail
  go_end0
  exact ⟨rfl, Or.inr H4.out, (Hb3.out.mono (Nat.le_of_lt Hb.out)).trans Hb4.out⟩
end Go.Proofs.YtmaccmhpcagcnaaGreatDoor
