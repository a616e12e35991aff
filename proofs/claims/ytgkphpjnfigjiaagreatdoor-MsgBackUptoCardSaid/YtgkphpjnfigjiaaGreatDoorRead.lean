/-
  The laws' fact: a message of words, a count and its mark is read as it is.
-/
import Derived.Test.YtgkphpjnfigjiaaGreatDoorParse
import Derived.Test.YtgkphpjnfigjiaaGreatDoorSame
namespace Go.Proofs.YtgkphpjnfigjiaaGreatDoor
open Go.RowKit Ms

def oneT : T := .node 1 [111, 110, 101, 32, 97, 112, 112, 108, 101] 0 .nil .nil
def otherT : T := .node 6 [] 0 .nil (.node 1 [32, 97, 112, 112, 108, 101, 115] 0 .nil .nil)
def applesT : T := .node 4 [110] 0 (.case [111, 110, 101] oneT (.case [111, 116, 104, 101, 114] otherT .nil)) .nil
def applesS : List UInt8 := [123, 110, 44, 32, 112, 108, 117, 114, 97, 108, 44, 32, 111, 110, 101, 32, 123, 111, 110, 101, 32, 97, 112, 112, 108, 101, 125, 32, 111, 116, 104, 101, 114, 32, 123, 35, 32, 97, 112, 112, 108, 101, 115, 125, 125]
theorem apples_txt : txt applesT false = applesS := by decide +kernel
theorem apples_fault : fault applesT = 0 := by decide +kernel
theorem apples_parse : parse applesS = some applesT := by
  have h := parse_back (t := applesT) rfl apples_fault
  rw [apples_txt] at h
  rw [h]; rfl
theorem apples_err : parseErr applesS = 0 := by unfold parseErr; rw [if_neg (by decide), apples_parse]
theorem apples_tree : parseTree applesS = applesT := by unfold parseTree; rw [if_neg (by decide), apples_parse]; rfl

/-- blocks laid one behind the other -/
def allocs (w : World) : List Obj → World
  | [] => w
  | o :: r => allocs (w.alloc o) r
theorem allocs_below : ∀ (w : World) (l : List Obj), Below w.heap.size w (allocs w l)
  | w, [] => Below.refl _ _
  | w, o :: r => ((Below.refl _ w).alloc (Nat.le_refl _) o).trans ((allocs_below (w.alloc o) r).mono (by simp))
theorem allocs_at : ∀ (w : World) (l : List Obj) (i : Nat) (h : i < l.length), (allocs w l).heap[w.heap.size + i]? = some l[i]
  | _, [], _, h => absurd h (Nat.not_lt_zero _)
  | w, o :: r, 0, _ => by
    have h := (allocs_below (w.alloc o) r).block w.heap.size (by simp)
    exact h.trans (Go.heap_alloc_new w o)
  | w, o :: r, i + 1, h => by
    have h1 := allocs_at (w.alloc o) r i (by simpa using h)
    have e : (w.alloc o).heap.size = w.heap.size + 1 := by simp
    rw [e] at h1
    rw [show w.heap.size + (i + 1) = w.heap.size + 1 + i by omega]
    exact h1

set_option maxHeartbeats 1000000 in
set_option maxRecDepth 100000 in
theorem apples_any (w : World) : Calls Tryz.prog 22 #[] w fun e w' => (∃ v, e = .returned v ∧ SV w' v applesT) ∧ Below w.heap.size w w' := by
  go_enter Tryz.func22, Tryz.ntmps22
  go_wp2_with fail
  go_ret
  have hb := allocs_at w [.cells #[.int .i64 1, .string ⟨#[111, 110, 101, 32, 97, 112, 112, 108, 101]⟩, .int .i64 0, .slice none 0 0] 35, .cells #[.string ⟨#[111, 110, 101]⟩, .slice (some ⟨w.heap.size, 0, none⟩) 1 1] 45, .cells #[.int .i64 6, .string ⟨#[]⟩, .int .i64 0, .slice none 0 0, .int .i64 1, .string ⟨#[32, 97, 112, 112, 108, 101, 115]⟩, .int .i64 0, .slice none 0 0] 35, .cells #[.string ⟨#[111, 116, 104, 101, 114]⟩, .slice (some ⟨w.heap.size + 1 + 1, 0, none⟩) 2 2] 45, .cells #[.string ⟨#[111, 110, 101]⟩, .slice (some ⟨w.heap.size, 0, none⟩) 1 1, .string ⟨#[111, 116, 104, 101, 114]⟩, .slice (some ⟨w.heap.size + 1 + 1, 0, none⟩) 2 2] 45, .cells #[.int .i64 4, .string ⟨#[110]⟩, .int .i64 0, .slice (some ⟨w.heap.size + 1 + 1 + 1 + 1, 0, none⟩) 2 2] 35]
  have hB := allocs_below w [.cells #[.int .i64 1, .string ⟨#[111, 110, 101, 32, 97, 112, 112, 108, 101]⟩, .int .i64 0, .slice none 0 0] 35, .cells #[.string ⟨#[111, 110, 101]⟩, .slice (some ⟨w.heap.size, 0, none⟩) 1 1] 45, .cells #[.int .i64 6, .string ⟨#[]⟩, .int .i64 0, .slice none 0 0, .int .i64 1, .string ⟨#[32, 97, 112, 112, 108, 101, 115]⟩, .int .i64 0, .slice none 0 0] 35, .cells #[.string ⟨#[111, 116, 104, 101, 114]⟩, .slice (some ⟨w.heap.size + 1 + 1, 0, none⟩) 2 2] 45, .cells #[.string ⟨#[111, 110, 101]⟩, .slice (some ⟨w.heap.size, 0, none⟩) 1 1, .string ⟨#[111, 116, 104, 101, 114]⟩, .slice (some ⟨w.heap.size + 1 + 1, 0, none⟩) 2 2] 45, .cells #[.int .i64 4, .string ⟨#[110]⟩, .int .i64 0, .slice (some ⟨w.heap.size + 1 + 1 + 1 + 1, 0, none⟩) 2 2] 35]
  change (∃ v, _ = Ending.returned v ∧ SV (allocs w [.cells #[.int .i64 1, .string ⟨#[111, 110, 101, 32, 97, 112, 112, 108, 101]⟩, .int .i64 0, .slice none 0 0] 35, .cells #[.string ⟨#[111, 110, 101]⟩, .slice (some ⟨w.heap.size, 0, none⟩) 1 1] 45, .cells #[.int .i64 6, .string ⟨#[]⟩, .int .i64 0, .slice none 0 0, .int .i64 1, .string ⟨#[32, 97, 112, 112, 108, 101, 115]⟩, .int .i64 0, .slice none 0 0] 35, .cells #[.string ⟨#[111, 116, 104, 101, 114]⟩, .slice (some ⟨w.heap.size + 1 + 1, 0, none⟩) 2 2] 45, .cells #[.string ⟨#[111, 110, 101]⟩, .slice (some ⟨w.heap.size, 0, none⟩) 1 1, .string ⟨#[111, 116, 104, 101, 114]⟩, .slice (some ⟨w.heap.size + 1 + 1, 0, none⟩) 2 2] 45, .cells #[.int .i64 4, .string ⟨#[110]⟩, .int .i64 0, .slice (some ⟨w.heap.size + 1 + 1 + 1 + 1, 0, none⟩) 2 2] 35]) v applesT) ∧ Below w.heap.size w (allocs w [.cells #[.int .i64 1, .string ⟨#[111, 110, 101, 32, 97, 112, 112, 108, 101]⟩, .int .i64 0, .slice none 0 0] 35, .cells #[.string ⟨#[111, 110, 101]⟩, .slice (some ⟨w.heap.size, 0, none⟩) 1 1] 45, .cells #[.int .i64 6, .string ⟨#[]⟩, .int .i64 0, .slice none 0 0, .int .i64 1, .string ⟨#[32, 97, 112, 112, 108, 101, 115]⟩, .int .i64 0, .slice none 0 0] 35, .cells #[.string ⟨#[111, 116, 104, 101, 114]⟩, .slice (some ⟨w.heap.size + 1 + 1, 0, none⟩) 2 2] 45, .cells #[.string ⟨#[111, 110, 101]⟩, .slice (some ⟨w.heap.size, 0, none⟩) 1 1, .string ⟨#[111, 116, 104, 101, 114]⟩, .slice (some ⟨w.heap.size + 1 + 1, 0, none⟩) 2 2] 45, .cells #[.int .i64 4, .string ⟨#[110]⟩, .int .i64 0, .slice (some ⟨w.heap.size + 1 + 1 + 1 + 1, 0, none⟩) 2 2] 35])
  refine ⟨⟨_, rfl, ?_⟩, hB⟩
  generalize allocs w [.cells #[.int .i64 1, .string ⟨#[111, 110, 101, 32, 97, 112, 112, 108, 101]⟩, .int .i64 0, .slice none 0 0] 35, .cells #[.string ⟨#[111, 110, 101]⟩, .slice (some ⟨w.heap.size, 0, none⟩) 1 1] 45, .cells #[.int .i64 6, .string ⟨#[]⟩, .int .i64 0, .slice none 0 0, .int .i64 1, .string ⟨#[32, 97, 112, 112, 108, 101, 115]⟩, .int .i64 0, .slice none 0 0] 35, .cells #[.string ⟨#[111, 116, 104, 101, 114]⟩, .slice (some ⟨w.heap.size + 1 + 1, 0, none⟩) 2 2] 45, .cells #[.string ⟨#[111, 110, 101]⟩, .slice (some ⟨w.heap.size, 0, none⟩) 1 1, .string ⟨#[111, 116, 104, 101, 114]⟩, .slice (some ⟨w.heap.size + 1 + 1, 0, none⟩) 2 2] 45, .cells #[.int .i64 4, .string ⟨#[110]⟩, .int .i64 0, .slice (some ⟨w.heap.size + 1 + 1 + 1 + 1, 0, none⟩) 2 2] 35] = W at *
  have b0 := hb 0 (by simp); have b2 := hb 2 (by simp); have b4 := hb 4 (by simp); have b5 := hb 5 (by simp)
  clear hb
  refine .inr ⟨w.heap.size + 5, 0, 1, 1, rfl, Nat.le_refl _, ?_⟩
  refine ⟨.slice (some ⟨w.heap.size + 4, 0, none⟩) 2 2, 0, rfl, Joins.cell_of_block b5 0, Joins.cell_of_block b5 1, Joins.cell_of_block b5 2, Joins.cell_of_block b5 3, .inr ⟨_, _, _, _, rfl, Nat.le_refl _, ?_⟩, rfl⟩
  refine ⟨.slice (some ⟨w.heap.size + 0, 0, none⟩) 1 1, 1, rfl, Joins.cell_of_block b4 0, Joins.cell_of_block b4 1, .inr ⟨_, _, _, _, rfl, Nat.le_refl _, ?_⟩, .slice (some ⟨w.heap.size + 2, 0, none⟩) 2 2, 0, rfl, Joins.cell_of_block b4 2, Joins.cell_of_block b4 3, .inr ⟨_, _, _, _, rfl, Nat.le_refl _, ?_⟩, rfl⟩
  · exact ⟨.slice none 0 0, 0, rfl, Joins.cell_of_block b0 0, Joins.cell_of_block b0 1, Joins.cell_of_block b0 2, Joins.cell_of_block b0 3, .inl ⟨⟨_, rfl⟩, rfl⟩, rfl⟩
  · exact ⟨.slice none 0 0, 1, rfl, Joins.cell_of_block b2 0, Joins.cell_of_block b2 1, Joins.cell_of_block b2 2, Joins.cell_of_block b2 3, .inl ⟨⟨_, rfl⟩, rfl⟩, .slice none 0 0, 0, rfl, Joins.cell_of_block b2 4, Joins.cell_of_block b2 5, Joins.cell_of_block b2 6, Joins.cell_of_block b2 7, .inl ⟨⟨_, rfl⟩, rfl⟩, rfl⟩

set_option maxHeartbeats 1000000 in
set_option maxRecDepth 100000 in
theorem read_any (w : World) (hm : MW w) : Calls Tryz.prog 8 #[] w fun e w' => e = .returned (.bool true) ∧ Below w.heap.size w w' := by
  have hp := parse_any applesS w (by decide) hm
  unfold ParseOut at hp
  rw [apples_err, apples_tree, errVal_0] at hp
  have HP := Lib.hid hp
  clear hp
  go_enter Tryz.func8, Tryz.ntmps8
  go_wp2_with fail
  refine HP.out.mono ?_
  rintro e w1 ⟨⟨v, rfl, hv⟩, hb1⟩
  obtain ⟨va, vn, vc, rfl⟩ := hv.form
  have HV := Lib.hid hv.sv
  have HB1 := Lib.hid hb1
  clear hv hb1
  go_wp2_with fail
  refine (apples_any _).mono ?_
  rintro e w2 ⟨⟨v2, rfl, hv2⟩, hb2⟩
  obtain ⟨ua, un, uc, rfl⟩ := hv2.form
  have HB2 := Lib.hid (HB1.out.trans (hb2.mono HB1.out.size))
  have HS := Lib.hid (same_of applesT applesT (.slice va vn vc) (.slice ua un uc) w2 rfl rfl (by decide) (by decide) (SV.below HV.out hb2) hv2)
  clear hv2 hb2
  go_wp2_with fail
  refine HS.out.mono ?_
  rintro e w3 ⟨rfl, hb3⟩
  have HB3 := Lib.hid (HB2.out.trans (hb3.mono HB2.out.size))
  clear hb3
  rw [sameT_refl]
  go_wp2_with fail
  go_ret
  exact ⟨rfl, HB3.out⟩
end Go.Proofs.YtgkphpjnfigjiaaGreatDoor
