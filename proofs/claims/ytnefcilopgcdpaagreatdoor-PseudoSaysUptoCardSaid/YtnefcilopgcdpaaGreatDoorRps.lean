/-
  PseudoSays, in its second form (arguments of bulk at most 1048576): whatever the arguments, the law answers true, and they read behind the call as they read before. The row lists package-level variables as the program's text lays them (the given tie).
-/
import Derived.Test.YtnefcilopgcdpaaGreatDoorMopenA
import Derived.Test.YtnefcilopgcdpaaGreatDoorWps
namespace Go.Proofs.YtnefcilopgcdpaaGreatDoor
open Go.ChangeShapes Go.WideShapes Go.ChangeAt Go.RowKit
open Go.ChangeMaps (open_string shut_string)
namespace pseudoSays

theorem short_language {H : Type} {m : DataW H} {language : ByteArray} {ags : DataW H} (hk : Rows.uptoSmall H [m, .lit (.string language.data.toList), ags] = true) : language.size ≤ 1048576 := by
  have h : Rows.uptoBulkAll [m, .lit (.string language.data.toList), ags] ≤ 1048576 := of_decide_eq_true hk
  simp only [Rows.uptoBulkAll, Rows.uptoBulk] at h
  have e : language.data.toList.length = language.size := by rw [Array.length_toList]; rfl
  omega

set_option maxRecDepth 100000 in
theorem contract (H : Type) (enc : TypeId × Value → H) (W : World) (base : Nat) (args : Array Value) (ds gs : List (DataW H)) (before : List MemPlace)
    (hval : ∀ (j : Nat) t v, Tryz.f3.params[j]? = some t → args[j]? = some v → Value.okWide Tryz.prog W .any base t v)
    (hW : DataW.Whole enc Tryz.prog Tryz.f3.params.toList Rows.pseudoSaysSpec.vars false W args.toList ds gs before)
    (hk : Rows.uptoSmall H (ds ++ gs) = true) (hS : W.ShapedOpen Tryz.prog) (hL : laidMetH Tryz.prog Rows.pseudoSaysRow.laid W) :
    Calls Tryz.prog 3 args W fun e W' => ∃ v, e = .returned v ∧ Rows.pseudoSaysSpec.post enc Tryz.prog Tryz.f3 false true false false W args v W' := by
  have hW' := hW
  obtain ⟨p, q, hA0, hV, rfl, hfz, hnd⟩ := hW
  have hA : DataW.TrodAll enc Tryz.prog W 0 (fun _ => true) true Tryz.f3.params.toList args.toList ds p := hA0
  rw [Tryz.params3] at hA hval
  obtain ⟨v0, v1, v2, m, d1, ags, p0, p1, p2, rfl, rfl, rfl, h0, h1, h2⟩ := trodAll_three hA
  obtain ⟨rfl, rfl⟩ := trodVars_none hV
  obtain ⟨t_m, s_m, n_m, w_m⟩ := open_msg (hval 0 22 v0 rfl rfl) h0
  obtain ⟨language, rfl, rfl, rfl, wlanguage⟩ := open_string Tryz.underlying9 (hval 1 9 v1 rfl rfl) h1
  obtain ⟨al_ags, s_ags, l_ags, w_ags⟩ := open_args (hval 2 23 v2 rfl rfl) h2
  clear hA0
  simp only [List.append_nil] at hW'
  have hsz_language := short_language hk
  have hbulk : Rows.uptoBulkAll [m, .lit (.string language.data.toList), ags] ≤ 1048576 := of_decide_eq_true hk
  simp only [Rows.uptoBulkAll, Rows.uptoBulk] at hbulk
  have hlaid : laidOutB Tryz.prog = true := by kernel_rfl
  refine (pseudoSays_bytes t_m v0 v2 language al_ags W n_m (by omega) ⟨mw_of hL (by simp [Rows.pseudoSaysRow]) (by simp [Rows.pseudoSaysRow]) (by simp [Rows.pseudoSaysRow]) (by simp [Rows.pseudoSaysRow]), maxAt_of hS, ev_of (varH_of hL (by simp [Rows.pseudoSaysRow]) (by kernel_rfl)) (varH_of hL (by simp [Rows.pseudoSaysRow]) (by kernel_rfl)), pl_of (varH_of hL (by simp [Rows.pseudoSaysRow]) (by kernel_rfl))⟩ (errType_of (And.right (show _ ∧ handlesMet Tryz.prog [("errors.errorType", Rows.laid_errors_errorType)] W from hL))) s_m.sv s_ags (by omega) (fun a h => by have := w_ags a h; omega)).mono fun e W' ⟨he, hg⟩ => ?_
  subst he
  have e1 : Rows.pseudoSaysSpec.fn H ([m, .lit (.string language.data.toList), ags] ++ []) = { results := [.lit (.bool true)], args := [m, .lit (.string language.data.toList), ags] } := rfl
  refine ⟨_, rfl, _, _, _, [], (p0 ++ ([] ++ p2)), [], hW', ?_, ?_, ?_, hg.frame _, fun h => by cases h⟩
  · rw [e1]; exact trodAll_mk1 (shut_bool Tryz.underlying4 true)
  · rw [e1]; exact trodAll_mk3 (Below.trod hlaid (by kernel_rfl) (of_decide_eq_true (by kernel_rfl)) h0 hg (fun x hx => hW'.lt x (by simp [hx]))) (shut_string Tryz.underlying9 wlanguage) (Below.trod hlaid (by kernel_rfl) (of_decide_eq_true (by kernel_rfl)) h2 hg (fun x hx => hW'.lt x (by simp [hx])))
  · rw [e1]; rfl

theorem laid_met (os : Os) (args : Array Value) : laidMetH Tryz.prog Rows.pseudoSaysRow.laid ((rowWorld os Rows.pseudoSaysRow.laid).forCall (fun _ _ => 0) ⟨#[], args, []⟩).memory :=
  rowWorld_met os Rows.pseudoSaysRow.laid args (by kernel_rfl) (by kernel_rfl) (by kernel_rfl)
theorem reads (os : Os) {H : Type} (enc : TypeId × Value → H) : ∃ places, DataW.whole enc Tryz.prog ((rowWorld os Rows.pseudoSaysRow.laid).forCall (fun _ _ => 0) ⟨#[], #[.slice none 0 0, .string ⟨#[]⟩, .slice none 0 0], []⟩).memory Tryz.f3.params.toList Rows.pseudoSaysSpec.vars false #[Value.slice none 0 0, .string ⟨#[]⟩, .slice none 0 0].toList 8 = some ([.nil, .lit (.string []), .nil], [], places) :=
  ⟨[], by kernel_rfl⟩

set_option maxRecDepth 100000 in
theorem lifted (os : Os) (started : os.Started) (H : Type) (enc : TypeId × Value → H) (F : Stop.Interp) :
    ReturnsInHanded {} Tryz.checked os 3 .any ((Rows.OpenSpec.upto Rows.pseudoSaysSpec).preRow enc Tryz.prog Tryz.f3 Rows.pseudoSaysUptoRow.domain false Rows.pseudoSaysUptoRow.laid) (((Rows.OpenSpec.upto Rows.pseudoSaysSpec).at F).post enc Tryz.prog Tryz.f3 false true false false) := by
  obtain ⟨places, hx⟩ := reads os enc
  refine returnsInHanded_of_row (C := Tryz.checked) (s := Rows.OpenSpec.upto Rows.pseudoSaysSpec) own started (by kernel_rfl) Tryz.func3
    (witness_row_atRef (enc := enc) (C := Tryz.checked) false (rowWorld os Rows.pseudoSaysRow.laid) #[.slice none 0 0, .string ⟨#[]⟩, .slice none 0 0] (rowWorld_os _ _) (by kernel_rfl) (by kernel_rfl) (by kernel_rfl)
      (OpenSpec.preRow_of_cond 8 hx (by kernel_rfl) (fun k hk => by cases hk; kernel_rfl) (by kernel_rfl) (laid_met os _))) ?_
  intro W base args ds gs before hval hW _ hcond _ hL hS _
  exact contract H enc W base args ds gs before hval hW (hcond _ rfl) hS hL

theorem said : Rows.PseudoSaysUptoSaid :=
  OpenClaim.holds_of_cond 3 Tryz.f3 rfl rfl rfl rfl rfl rfl rfl ⟨rfl, rfl, rfl, rfl, rfl⟩ rfl rfl rfl rfl rfl (by kernel_rfl) Tryz.func3 (by kernel_rfl)
    (of_decide_eq_true (by kernel_rfl)) (by unfold Func.isWrapper; first | (rw [if_pos (by decide +kernel)]; kernel_rfl) | (rw [if_neg (by decide +kernel)]; exact ⟨rfl, rfl⟩))
    (fun os started H enc _ F => by rw [OpenClaim.pre_eq_preRow]; exact lifted os started H enc F)

/-- no parameter wants a stand-in -/
theorem plain (f : FuncId) (fn : Func) (hf : Tryz.pinned.checked.prog.funcNamed "linguister/linguisterlaw4.PseudoSays" = some f) (hfn : Tryz.pinned.checked.prog.funcs[f]? = some fn) :
    true = Tryz.pinned.checked.prog.looks [] ∧ ∀ (j : Nat) t, fn.params[j]? = some t → Tryz.pinned.checked.prog.wantsStandIn t = false := by
  obtain rfl : f = 3 := Option.some.inj ((show Tryz.prog.funcNamed "linguister/linguisterlaw4.PseudoSays" = some 3 by kernel_rfl).symm.trans hf) |>.symm
  obtain rfl : fn = Tryz.f3 := (Option.some.inj (Tryz.func3.symm.trans hfn)).symm
  refine ⟨by kernel_rfl, fun j t ht => ?_⟩
  rw [Tryz.params3] at ht
  have hm : t ∈ #[22, 9, 23] := Array.mem_of_getElem? ht
  simp at hm
  rcases hm with rfl | rfl | rfl
  · exact (show Tryz.prog.wantsStandIn 22 = false by kernel_rfl)
  · exact (show Tryz.prog.wantsStandIn 9 = false by kernel_rfl)
  · exact (show Tryz.prog.wantsStandIn 23 = false by kernel_rfl)

/-- the card -/
theorem card : Rows.PseudoSaysUptoCardSaid :=
  Claim7.holds_tied_plain_at .later [] _ _ _ _ said (fun _ h => by cases h) (by kernel_rfl) (fun _ h => by cases h) pseudoSaysUpto_row_tie rfl ⟨rfl, rfl⟩ (by kernel_rfl) rfl plain (by kernel_rfl)
#print axioms card
end pseudoSays
end Go.Proofs.YtnefcilopgcdpaaGreatDoor
