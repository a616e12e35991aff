/-
  DpatParts, in its second form (arguments of bulk at most 1048576): whatever the arguments, the law answers true, and they read behind the call as they read before. The row lists package-level variables as the program's text lays them (the given tie).
-/
import Derived.Test.YtmaccmhpcagcnaaDoorLaid
import Derived.Test.YtmaccmhpcagcnaaDoorWdp
namespace Go.Proofs.YtmaccmhpcagcnaaDoor
open Go.ChangeShapes Go.WideShapes Go.ChangeAt Go.RowKit
open Go.ChangeMaps (open_string shut_string)
namespace dpatParts

theorem short_s {H : Type} {s : ByteArray} {t : ByteArray} {x : ByteArray} {dy dm dd : Int} (hk : Rows.uptoSmall H [.lit (.string s.data.toList), .lit (.string t.data.toList), .lit (.string x.data.toList), .agg [.lit (.int .i64 dy), .lit (.int .i64 dm), .lit (.int .i64 dd)]] = true) : s.size ≤ 1048576 := by
  have h : Rows.uptoBulkAll [DataW.lit (H := H) (.string s.data.toList), .lit (.string t.data.toList), .lit (.string x.data.toList), .agg [.lit (.int .i64 dy), .lit (.int .i64 dm), .lit (.int .i64 dd)]] ≤ 1048576 := of_decide_eq_true hk
  simp only [Rows.uptoBulkAll, Rows.uptoBulk] at h
  have e : s.data.toList.length = s.size := by rw [Array.length_toList]; rfl
  omega

theorem short_t {H : Type} {s : ByteArray} {t : ByteArray} {x : ByteArray} {dy dm dd : Int} (hk : Rows.uptoSmall H [.lit (.string s.data.toList), .lit (.string t.data.toList), .lit (.string x.data.toList), .agg [.lit (.int .i64 dy), .lit (.int .i64 dm), .lit (.int .i64 dd)]] = true) : t.size ≤ 1048576 := by
  have h : Rows.uptoBulkAll [DataW.lit (H := H) (.string s.data.toList), .lit (.string t.data.toList), .lit (.string x.data.toList), .agg [.lit (.int .i64 dy), .lit (.int .i64 dm), .lit (.int .i64 dd)]] ≤ 1048576 := of_decide_eq_true hk
  simp only [Rows.uptoBulkAll, Rows.uptoBulk] at h
  have e : t.data.toList.length = t.size := by rw [Array.length_toList]; rfl
  omega

theorem short_x {H : Type} {s : ByteArray} {t : ByteArray} {x : ByteArray} {dy dm dd : Int} (hk : Rows.uptoSmall H [.lit (.string s.data.toList), .lit (.string t.data.toList), .lit (.string x.data.toList), .agg [.lit (.int .i64 dy), .lit (.int .i64 dm), .lit (.int .i64 dd)]] = true) : x.size ≤ 1048576 := by
  have h : Rows.uptoBulkAll [DataW.lit (H := H) (.string s.data.toList), .lit (.string t.data.toList), .lit (.string x.data.toList), .agg [.lit (.int .i64 dy), .lit (.int .i64 dm), .lit (.int .i64 dd)]] ≤ 1048576 := of_decide_eq_true hk
  simp only [Rows.uptoBulkAll, Rows.uptoBulk] at h
  have e : x.data.toList.length = x.size := by rw [Array.length_toList]; rfl
  omega

set_option maxRecDepth 100000 in
theorem contract (H : Type) (enc : TypeId × Value → H) (W : World) (base : Nat) (args : Array Value) (ds gs : List (DataW H)) (before : List MemPlace)
    (hval : ∀ (j : Nat) t v, Tryd.f4.params[j]? = some t → args[j]? = some v → Value.okWide Tryd.prog W .any base t v)
    (hW : DataW.Whole enc Tryd.prog Tryd.f4.params.toList Rows.dpatPartsSpec.vars false W args.toList ds gs before)
    (hk : Rows.uptoSmall H (ds ++ gs) = true) (hS : W.ShapedOpen Tryd.prog) (hL : laidMetH Tryd.prog Rows.dpatPartsRow.laid W) :
    Calls Tryd.prog 4 args W fun e W' => ∃ v, e = .returned v ∧ Rows.dpatPartsSpec.post enc Tryd.prog Tryd.f4 false true false false W args v W' := by
  have hW' := hW
  obtain ⟨p, q, hA0, hV, rfl, hfz, hnd⟩ := hW
  have hA : DataW.TrodAll enc Tryd.prog W 0 (fun _ => true) true Tryd.f4.params.toList args.toList ds p := hA0
  rw [Tryd.params4] at hA hval
  obtain ⟨v0, v1, v2, v3, d0, d1, d2, d3, p0, p1, p2, p3, rfl, rfl, rfl, h0, h1, h2, h3⟩ := trodAll_four hA
  obtain ⟨rfl, rfl⟩ := trodVars_none hV
  obtain ⟨s, rfl, rfl, rfl, ws⟩ := open_string Tryd.underlying9 (hval 0 9 v0 rfl rfl) h0
  obtain ⟨t, rfl, rfl, rfl, wt⟩ := open_string Tryd.underlying9 (hval 1 9 v1 rfl rfl) h1
  obtain ⟨x, rfl, rfl, rfl, wx⟩ := open_string Tryd.underlying9 (hval 2 9 v2 rfl rfl) h2
  obtain ⟨dy, dm, dd, rfl, rfl, rfl, wdy, wdm, wdd⟩ := open_date (hval 3 23 v3 rfl rfl) h3
  clear hA0
  simp only [List.append_nil] at hW'
  have hsz_s := short_s hk
  have hsz_t := short_t hk
  have hsz_x := short_x hk
  refine (dpatParts_walk s t x dy dm dd W (Nat.le_trans hsz_s (by decide)) (Nat.le_trans hsz_t (by decide)) (Nat.le_trans hsz_x (by decide)) (ahead_of (var_of (by kernel_rfl) hL (by simp [Rows.dpatPartsRow]))) (pow_of (var_of (by kernel_rfl) hL (by simp [Rows.dpatPartsRow]))) (maxAt_of hS)).mono fun e W' ⟨he, hg⟩ => ?_
  subst he
  have e1 : Rows.dpatPartsSpec.fn H ([.lit (.string s.data.toList), .lit (.string t.data.toList), .lit (.string x.data.toList), .agg [.lit (.int .i64 dy), .lit (.int .i64 dm), .lit (.int .i64 dd)]] ++ []) = { results := [.lit (.bool true)], args := [.lit (.string s.data.toList), .lit (.string t.data.toList), .lit (.string x.data.toList), .agg [.lit (.int .i64 dy), .lit (.int .i64 dm), .lit (.int .i64 dd)]] } := rfl
  refine ⟨_, rfl, _, _, _, [], [], [], hW', ?_, ?_, ?_, hg.frame _, fun h => by cases h⟩
  · rw [e1]; exact trodAll_mk1 (shut_bool Tryd.underlying4 true)
  · rw [e1]; exact trodAll_mk4 (shut_string Tryd.underlying9 ws) (shut_string Tryd.underlying9 wt) (shut_string Tryd.underlying9 wx) (shut_date wdy wdm wdd)
  · rw [e1]; rfl

theorem laid_met (os : Os) (args : Array Value) : laidMetH Tryd.prog Rows.dpatPartsRow.laid ((World.laidAll Tryd.prog os Rows.dpatPartsRow.laid).forCall (fun _ _ => 0) ⟨#[], args, []⟩).memory :=
  by rw [MakeChecks.laidMetH_plain _ _ _ (by kernel_rfl)]; exact laidMet_laidAll _ (by kernel_rfl) (by kernel_rfl)
theorem reads (os : Os) {H : Type} (enc : TypeId × Value → H) : ∃ places, DataW.whole enc Tryd.prog ((World.laidAll Tryd.prog os Rows.dpatPartsRow.laid).forCall (fun _ _ => 0) ⟨#[], #[.string ⟨#[]⟩, .string ⟨#[]⟩, .string ⟨#[]⟩, .agg #[.int .i64 0, .int .i64 0, .int .i64 0]], []⟩).memory Tryd.f4.params.toList Rows.dpatPartsSpec.vars false #[Value.string ⟨#[]⟩, .string ⟨#[]⟩, .string ⟨#[]⟩, .agg #[.int .i64 0, .int .i64 0, .int .i64 0]].toList 8 = some ([.lit (.string []), .lit (.string []), .lit (.string []), .agg [.lit (.int .i64 0), .lit (.int .i64 0), .lit (.int .i64 0)]], [], places) :=
  ⟨[], by kernel_rfl⟩

set_option maxRecDepth 100000 in
theorem lifted (os : Os) (started : os.Started) (H : Type) (enc : TypeId × Value → H) (F : Stop.Interp) :
    ReturnsInHanded {} Tryd.checked os 4 .any ((Rows.OpenSpec.upto Rows.dpatPartsSpec).preRow enc Tryd.prog Tryd.f4 Rows.dpatPartsUptoRow.domain false Rows.dpatPartsUptoRow.laid) (((Rows.OpenSpec.upto Rows.dpatPartsSpec).at F).post enc Tryd.prog Tryd.f4 false true false false) := by
  obtain ⟨places, hx⟩ := reads os enc
  refine returnsInHanded_of_row (C := Tryd.checked) (s := Rows.OpenSpec.upto Rows.dpatPartsSpec) own started (by kernel_rfl) Tryd.func4
    (witness_row_at (enc := enc) (C := Tryd.checked) false (World.laidAll Tryd.prog os Rows.dpatPartsRow.laid) #[.string ⟨#[]⟩, .string ⟨#[]⟩, .string ⟨#[]⟩, .agg #[.int .i64 0, .int .i64 0, .int .i64 0]] (World.laidAll_os _ _ _) (by kernel_rfl) (by kernel_rfl) (by kernel_rfl)
      (OpenSpec.preRow_of_cond 8 hx (by kernel_rfl) (fun k hk => by cases hk; kernel_rfl) (by kernel_rfl) (laid_met os _))) ?_
  intro W base args ds gs before hval hW _ hcond _ hL hS _
  exact contract H enc W base args ds gs before hval hW (hcond _ rfl) hS hL

theorem said : Rows.DpatPartsUptoSaid :=
  OpenClaim.holds_of_cond 4 Tryd.f4 rfl rfl rfl rfl rfl rfl rfl ⟨rfl, rfl, rfl, rfl, rfl⟩ rfl rfl rfl rfl rfl (by kernel_rfl) Tryd.func4 (by kernel_rfl)
    (of_decide_eq_true (by kernel_rfl)) (by unfold Func.isWrapper; first | (rw [if_pos (by decide +kernel)]; kernel_rfl) | (rw [if_neg (by decide +kernel)]; exact ⟨rfl, rfl⟩))
    (fun os started H enc _ F => by rw [OpenClaim.pre_eq_preRow]; exact lifted os started H enc F)

/-- no parameter wants a stand-in -/
theorem plain (f : FuncId) (fn : Func) (hf : Tryd.pinned.checked.prog.funcNamed "linguister/linguisterlaw2.DpatParts" = some f) (hfn : Tryd.pinned.checked.prog.funcs[f]? = some fn) :
    false = Tryd.pinned.checked.prog.looks [] ∧ ∀ (j : Nat) t, fn.params[j]? = some t → Tryd.pinned.checked.prog.wantsStandIn t = false := by
  obtain rfl : f = 4 := Option.some.inj ((show Tryd.prog.funcNamed "linguister/linguisterlaw2.DpatParts" = some 4 by kernel_rfl).symm.trans hf) |>.symm
  obtain rfl : fn = Tryd.f4 := (Option.some.inj (Tryd.func4.symm.trans hfn)).symm
  refine ⟨by kernel_rfl, fun j t ht => ?_⟩
  rw [Tryd.params4] at ht
  have hm : t ∈ #[9, 9, 9, 23] := Array.mem_of_getElem? ht
  simp at hm
  rcases hm with rfl | rfl
  · exact (show Tryd.prog.wantsStandIn 9 = false by kernel_rfl)
  · exact (show Tryd.prog.wantsStandIn 23 = false by kernel_rfl)

/-- the card -/
theorem card : Rows.DpatPartsUptoCardSaid :=
  Claim7.holds_tied_plain_at .later [] _ _ _ _ said (fun _ h => by cases h) (by kernel_rfl) (fun _ h => by cases h) dpatPartsUpto_row_tie rfl ⟨rfl, rfl⟩ (by kernel_rfl) rfl plain (by kernel_rfl)
#print axioms card
end dpatParts
end Go.Proofs.YtmaccmhpcagcnaaDoor
