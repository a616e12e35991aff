/-
  A range over an iterator that keeps its state in a captured cell (strings.SplitSeq): the law, at the outermost loop and within a round.
  The body never jumps. The iterator's block sb lies ahead of the loop; the caller's invariant abides a store there.
-/
import Derived.Test.YtnefcilopgcdpaaGreatDoorBase
import Derived.RangeFuncNested
import Derived.RangeFuncBound
import Derived.RangeFuncCalls
import Derived.RangeFuncLeaves
import Derived.RangeFuncRecord
import Derived.Shelf.Abstract
import Derived.Shelf.RegionOpen
import Derived.WalkKit
import Derived.OwnWalkIn
import Derived.TacticsInMore
import Derived.LoopNIn
import Derived.LoopIn
namespace Go.Proofs.YtnefcilopgcdpaaGreatDoor
open Go.RowKit

/-- some blocks are as they were, none is lost -/
def Kept (S : Nat → Prop) (W W' : World) : Prop := W.heap.size ≤ W'.heap.size ∧ ∀ k, S k → W'.heap[k]? = W.heap[k]?
theorem Kept.trans {S : Nat → Prop} {X Y Z : World} (h : Kept S X Y) (g : Kept S Y Z) : Kept S X Z := ⟨Nat.le_trans h.1 g.1, fun i hi => (g.2 i hi).trans (h.2 i hi)⟩
theorem Kept.putObj {S : Nat → Prop} {W : World} {l : Nat} {o : Obj} (h : ¬ S l) : Kept S W (W.putObj l o) := ⟨(grownBy_putObj' W l o).size, fun _ hk => World.putObj_heap_other (fun e => h (e ▸ hk))⟩
theorem Kept.below {S : Nat → Prop} {B : Nat} {W W' : World} (h : Below B W W') (hS : ∀ k, S k → k < B) : Kept S W W' := ⟨h.size, fun i hi => h.block i (hS i hi)⟩
/-- the caller's word abides a store into the iterator's own cell -/
def Stores {β : Type} (sb : Nat) (J : β → World → Prop) : Prop := ∀ s A v, J s A → J s (A.setCell ⟨sb, 0, none⟩ v)
/-- the iterator's contract: it hands over xs, each once, whatever a round does above n₀ -/
def SeqC {α : Type} (F : Fence) (n : Nat) (P : Program) (g : Nat) (lb : Array Value) (enc : α → Array Value) (xs : List α) (sb : Nat) (S : Nat → Prop) (w : World) : Prop :=
  ∀ (l : Nat) (J : List α → World → Prop) (W : World), Below w.heap.size w W → AbidesFrom W.heap.size J → Stores sb J →
    (∀ pre x rest W1, xs = pre ++ x :: rest → J pre W1 → YieldAt F (n - 1) P l (enc x) W1 fun e W' => e = .returned (.bool true) ∧ J (pre ++ [x]) W' ∧ Kept S W1 W') →
    J [] W →
    CallsIn F n P g (#[.func (.yield l) #[] #[]] ++ lb) W fun e W' => (∃ v, e = .returned v) ∧ J xs W'
theorem SeqC.inRound {α : Type} {F : Fence} {n : Nat} {P : Program} {g : Nat} {lb : Array Value} {enc : α → Array Value} {xs : List α} {sb : Nat} {S : Nat → Prop} {w : World} (l : Nat)
    (h : SeqC F n P g lb enc xs sb S w) : SeqC (F.inRound l) n P g lb enc xs sb S w := h
/-- how a round ends: it goes on -/
def goesOn {α : Type} (B : Nat) (S : Nat → Prop) (I : List α → World → Prop) (xs : List α) (W : World) : Exit → Act → World → Prop
  | .normal, _, W' => KeepsFrom B W W' ∧ Kept S W W' ∧ I xs W'
  | _, _, _ => False

variable {F : Fence} {n : Nat} {P : Program}

/-- the iterator's call, at a record that is ready: all rounds, none of them leaves -/
theorem seqc_run {α : Type} {m : Nat} {gf : Nat} {lb : Array Value} {enc : α → Array Value} {xs : List α} {sb B l : Nat} {S : Nat → Prop} {w W1 : World} {r : Loop} (dd : Option Nat)
    (hseq : SeqC F m P gf lb enc xs sb S w) (hb : Below w.heap.size w W1) (hF : F.fn r.fn) (hl : W1.heap[l]? = some (.loop r)) (hr : r.state = .ready) (hpn : r.pending = none)
    (hBl : B ≤ l) (hnB : ∀ k, S k → k < B) (hsb : sb < B) (hBW : B ≤ W1.heap.size) (hd : ∀ D, dd = some D → B ≤ D ∧ D ≠ l ∧ W1.heap[D]? = some (.deferred (some [])))
    (hps : ∀ x, (enc x).size = r.params.size) (I : List α → World → Prop) (hI : OwnFrom B I) (hS : Stores sb I) (h0 : I [] W1) (a₁ : α → Act)
    (hassign : ∀ (x : α) (W : World) (K : Act → World → Prop), K (a₁ x) W → r.assign.wpIn (F.inRound l) (m - 1) P (Exit.then K (fun _ _ _ => False)) { tmps := (r.params.zip (enc x)).foldl (fun t (p, v) => t.setIfInBounds p v) r.tmps, defers := [] } W)
    (hbody : ∀ (pre : List α) (x : α) (rest : List α) (W : World), xs = pre ++ x :: rest → (∃ r', W.heap[l]? = some (.loop r')) → I pre W → r.body.wpIn (F.inRound l) (m - 1) P (goesOn B S I (pre ++ [x]) W) (a₁ x) W) :
    CallsIn F m P gf (#[.func (.yield l) #[] #[]] ++ lb) W1 fun e W2 => (∃ v, e = .returned v) ∧ I xs W2 ∧ (∀ D, dd = some D → W2.heap[D]? = some (.deferred (some []))) ∧ W2.heap[l]? = some (.loop r) := by
  refine hseq l (fun pre W => I pre W ∧ (∀ D, dd = some D → W.heap[D]? = some (.deferred (some []))) ∧ W.heap[l]? = some (.loop r)) W1 hb ?_ ?_ ?_ ⟨h0, fun D e => (hd D e).2.2, hl⟩
  · rintro s A C row ⟨k1, k2, k3⟩ hg hw
    refine ⟨hI s A C row k1 hg (fun q e => ⟨by have := (hw q e).1; omega, ?_⟩), fun D e => (grownBy_keeps hg (fun q e => (hw q e).2) (k2 D e) rfl).trans (k2 D e), (grownBy_keeps hg (fun q e => (hw q e).2) k3 rfl).trans k3⟩
    obtain ⟨_, o, ho, h⟩ := hw q e
    exact ⟨o, ho, Obj.not_cells_of_walk h⟩
  · rintro s A v ⟨k1, k2, k3⟩
    exact ⟨hS s A v k1, fun D e => (Below.heap_setCell A _ v D (by have := (hd D e).1; show D ≠ sb; omega)).trans (k2 D e), (Below.heap_setCell A _ v l (by show l ≠ sb; omega)).trans k3⟩
  · rintro pre x rest W hx ⟨hi, hk, hlW⟩
    have hlt : l < W.heap.size := (Array.getElem?_eq_some_iff.1 hlW).1
    refine ⟨r.fn, _, r.assign, r.body, run_yield hlW (hps x), roundIn_of_wpIn hF (hassign x W _ ⟨_, run_beginRound hlW hr, ?_⟩)⟩
    have hl2 : (W.putObj l (.loop { r with state := .busy })).heap[l]? = some (.loop { r with state := .busy }) := World.putObj_heap_same hlt
    refine wpIn_mono (hbody pre x rest _ hx ⟨_, hl2⟩ (hI.putObj _ hi hBl hlW rfl)) ?_
    rintro e a3 W3 hp
    cases e with
    | normal =>
      obtain ⟨hk3, hb3, hi3⟩ := hp
      have hl3 := hk3.same l _ hBl hl2 rfl
      have hend := run_endRound (P := P) none hl3
      have hrr : ({ { r with state := .busy } with state := if (none : Option Code).isNone then .ready else .done, pending := none } : Loop) = r := by
        cases r; simp only at hr hpn; subst hr hpn; rfl
      rw [hrr] at hend
      have hB1 : Kept S W (W.putObj l (.loop { r with state := .busy })) := Kept.putObj (fun h => by have := hnB l h; omega)
      have hlt3 : l < W3.heap.size := (Array.getElem?_eq_some_iff.1 hl3).1
      have hB3 : Kept S W3 (W3.putObj l (.loop r)) := Kept.putObj (fun h => by have := hnB l h; omega)
      refine ⟨_, _, hend, rfl, ⟨hI.putObj _ hi3 hBl hl3 rfl, fun D e => ?_, World.putObj_heap_same hlt3⟩, (hB1.trans hb3).trans hB3⟩
      exact (World.putObj_heap_other (hd D e).2.1).trans (hk3.same D _ (hd D e).1 ((World.putObj_heap_other (hd D e).2.1).trans (hk D e)) rfl)
    | _ => exact hp.elim

/-- THE LAW, at an outermost loop. -/
theorem wpIn_seqc {α : Type} {g : Operand} {ps : Array Tmp} {assign body : Code} {Q : Exit → Act → World → Prop} {a : Act} {w : World}
    (hro : F.round = none) (h1 : 1 ≤ n) {gf : Nat} {lb : Array Value} (hg : a.eval g = .func (.func gf) #[] lb) (hFg : F.fn gf) (eg : ∀ args w, (callFunc gf args).run P w = .ok (.enter gf args) w)
    {enc : α → Array Value} {xs : List α} {sb : Nat} {S : Nat → Prop} (hseq : SeqC F (n - 1) P gf lb enc xs sb S w) (hsb : sb < w.heap.size) (hn₀ : ∀ k, S k → k < w.heap.size) (hps : ∀ x, (enc x).size = ps.size)
    (I : List α → World → Prop) (hI : OwnFrom w.heap.size I) (hS : Stores sb I) (h0 : I [] w) (a₁ : α → Act)
    (hassign : ∀ (l : Nat) (x : α) (W : World) (K : Act → World → Prop), K (a₁ x) W →
      assign.wpIn (F.inRound l) (n - 1 - 1) P (Exit.then K (fun _ _ _ => False)) { tmps := (ps.zip (enc x)).foldl (fun t (p, v) => t.setIfInBounds p v) a.tmps, defers := [] } W)
    (hbody : ∀ (l : Nat) (pre : List α) (x : α) (rest : List α) (W : World), w.heap.size ≤ l → xs = pre ++ x :: rest → (∃ r, W.heap[l]? = some (.loop r)) → I pre W →
      body.wpIn (F.inRound l) (n - 1 - 1) P (goesOn w.heap.size S I (pre ++ [x]) W) (a₁ x) W)
    (hdone : ∀ (D : Nat) (W : World), w.heap.size ≤ D → I xs W → W.heap[D]? = some (.deferred (some [])) → Q .normal { a with defers := { target := .collected D, args := #[] } :: a.defers } W) :
    (Code.rangeFunc g ps assign body).wpIn F n P Q a w := by
  refine wpIn_rangeFunc ?_
  intro fn hfn
  rw [hro]
  obtain ⟨W1, hW1⟩ : ∃ W1, (w.alloc (.deferred (some []))).alloc (.loop { state := .ready, pending := none, fn, tmps := a.tmps, params := ps, assign, body, defers := w.heap.size }) = W1 := ⟨_, rfl⟩
  have hL1 : W1.heap[w.heap.size + 1]? = some (.loop { state := .ready, pending := none, fn, tmps := a.tmps, params := ps, assign, body, defers := w.heap.size }) := by
    rw [← hW1]; have := World.alloc_heap_new (w.alloc (.deferred (some []))) (.loop { state := .ready, pending := none, fn, tmps := a.tmps, params := ps, assign, body, defers := w.heap.size }); rwa [World.size_alloc] at this
  have hK1 : W1.heap[w.heap.size]? = some (.deferred (some [])) := by
    rw [← hW1]; exact (Below.heap_alloc _ _ _ (by simp)).trans (World.alloc_heap_new w _)
  have hI1 : I [] W1 := by rw [← hW1]; exact hI.alloc _ (hI.alloc _ h0)
  have hb1 : Below w.heap.size w W1 := by rw [← hW1]; exact ((Below.refl _ w).alloc (Nat.le_refl _) _).alloc (by simp) _
  refine ⟨w.heap.size + 1, [{ target := .collected w.heap.size, args := #[] }], W1, { target := .fn (.func gf) lb, args := #[.func (.yield (w.heap.size + 1)) #[] #[]] }, W1, gf,
    #[.func (.yield (w.heap.size + 1)) #[] #[]] ++ lb, W1, ?_, ?_, ?_, ?_, fun _ => h1, ?_⟩
  · rw [← hW1]; exact run_enterLoop_outer _ _ _ _ _
  · simp only [resolve, hg]
    simp [go_sem]
  · intro f' hf'; simp [Target.leads] at hf'; subst hf'; exact hFg
  · simp [invoke, go_sem, eg]
  · refine (seqc_run (B := w.heap.size) (some w.heap.size) hseq hb1 hfn hL1 rfl rfl (by omega) hn₀ hsb hb1.size (fun D e => by cases e; exact ⟨Nat.le_refl _, by omega, hK1⟩) hps I hI hS hI1 a₁
      (fun x W K hK => hassign _ x W K hK) (fun pre x rest W hx hr hi => hbody _ pre x rest W (by omega) hx hr hi)).mono ?_
    rintro e W2 ⟨⟨v, rfl⟩, hi, hk, hl⟩
    exact ⟨none, _, run_endLoop (P := P) hl (by simp), hdone _ _ (Nat.le_refl _) (hI.putObj _ hi (by omega) hl rfl) ((World.putObj_heap_other (by omega)).trans (hk _ rfl))⟩

/-- THE LAW, within a round of loop l₀. -/
theorem wpIn_seqc_in {α : Type} {g : Operand} {ps : Array Tmp} {assign body : Code} {Q : Exit → Act → World → Prop} {a : Act} {w : World}
    {l₀ : Nat} {r₀ : Loop} (hro : F.round = some l₀) (hl₀ : w.heap[l₀]? = some (.loop r₀)) (h1 : 1 ≤ n) {gf : Nat} {lb : Array Value} (hg : a.eval g = .func (.func gf) #[] lb) (hFg : F.fn gf) (eg : ∀ args w, (callFunc gf args).run P w = .ok (.enter gf args) w)
    {enc : α → Array Value} {xs : List α} {sb : Nat} {S : Nat → Prop} (hseq : SeqC F (n - 1) P gf lb enc xs sb S w) (hsb : sb < w.heap.size) (hn₀ : ∀ k, S k → k < w.heap.size) (hps : ∀ x, (enc x).size = ps.size)
    (I : List α → World → Prop) (hI : OwnFrom w.heap.size I) (hS : Stores sb I) (h0 : I [] w) (a₁ : α → Act)
    (hassign : ∀ (l : Nat) (x : α) (W : World) (K : Act → World → Prop), K (a₁ x) W →
      assign.wpIn (F.inRound l) (n - 1 - 1) P (Exit.then K (fun _ _ _ => False)) { tmps := (ps.zip (enc x)).foldl (fun t (p, v) => t.setIfInBounds p v) a.tmps, defers := [] } W)
    (hbody : ∀ (l : Nat) (pre : List α) (x : α) (rest : List α) (W : World), w.heap.size ≤ l → xs = pre ++ x :: rest → (∃ r, W.heap[l]? = some (.loop r)) → I pre W →
      body.wpIn (F.inRound l) (n - 1 - 1) P (goesOn w.heap.size S I (pre ++ [x]) W) (a₁ x) W)
    (hdone : ∀ (W : World), I xs W → Q .normal a W) :
    (Code.rangeFunc g ps assign body).wpIn F n P Q a w := by
  refine wpIn_rangeFunc ?_
  intro fn hfn
  rw [hro]
  obtain ⟨W1, hW1⟩ : ∃ W1, w.alloc (.loop { state := .ready, pending := none, fn, tmps := a.tmps, params := ps, assign, body, defers := r₀.defers }) = W1 := ⟨_, rfl⟩
  have hL1 : W1.heap[w.heap.size]? = some (.loop { state := .ready, pending := none, fn, tmps := a.tmps, params := ps, assign, body, defers := r₀.defers }) := by
    rw [← hW1]; exact World.alloc_heap_new w _
  have hI1 : I [] W1 := by rw [← hW1]; exact hI.alloc _ h0
  have hb1 : Below w.heap.size w W1 := by rw [← hW1]; exact (Below.refl _ w).alloc (Nat.le_refl _) _
  refine ⟨w.heap.size, [], W1, { target := .fn (.func gf) lb, args := #[.func (.yield w.heap.size) #[] #[]] }, W1, gf,
    #[.func (.yield w.heap.size) #[] #[]] ++ lb, W1, ?_, ?_, ?_, ?_, fun _ => h1, ?_⟩
  · rw [← hW1]; exact run_enterLoop_inner hl₀ _ _ _ _ _
  · simp only [resolve, hg]
    simp [go_sem]
  · intro f' hf'; simp [Target.leads] at hf'; subst hf'; exact hFg
  · simp [invoke, go_sem, eg]
  · refine (seqc_run (B := w.heap.size) none hseq hb1 hfn hL1 rfl rfl (Nat.le_refl _) hn₀ hsb hb1.size (fun D e => by cases e) hps I hI hS hI1 a₁
      (fun x W K hK => hassign _ x W K hK) (fun pre x rest W hx hr hi => hbody _ pre x rest W (Nat.le_refl _) hx hr hi)).mono ?_
    rintro e W2 ⟨⟨v, rfl⟩, hi, _, hl⟩
    exact ⟨none, _, run_endLoop (P := P) hl (by simp), hdone _ (hI.putObj _ hi (Nat.le_refl _) hl rfl)⟩

/-- a fence that lets all in -/
structure Wide (P : Program) (F : Fence) : Prop where
  fn : ∀ f, F.fn f
  dep : F.depth = none
  calls : ∀ (m f : Nat) (args : Array Value) (w : World) (R : Ending → World → Prop), Calls P f args w R → CallsIn F m P f args w R
theorem Wide.wide (P : Program) : Wide P Fence.wide := ⟨fun _ => trivial, rfl, fun _ _ _ _ _ h => callsIn_wide.2 h⟩
theorem Wide.inRound {P : Program} {F : Fence} (h : Wide P F) (l : Nat) : Wide P (F.inRound l) := ⟨h.fn, h.dep, fun m f args w R k => CallsIn.inRound l (h.calls m f args w R k)⟩

/-- THE LAW, at an outermost loop, for a plain walk. -/
theorem wp_seqc {α : Type} {g : Operand} {ps : Array Tmp} {assign body : Code} {Q : Exit → Act → World → Prop} {a : Act} {w : World}
    {gf : Nat} {lb : Array Value} (hg : a.eval g = .func (.func gf) #[] lb) (eg : ∀ args w, (callFunc gf args).run P w = .ok (.enter gf args) w)
    {enc : α → Array Value} {xs : List α} {sb : Nat} {S : Nat → Prop} (hseq : ∀ n, 1 ≤ n → SeqC Fence.wide n P gf lb enc xs sb S w) (hsb : sb < w.heap.size) (hn₀ : ∀ k, S k → k < w.heap.size) (hps : ∀ x, (enc x).size = ps.size)
    (I : List α → World → Prop) (hI : OwnFrom w.heap.size I) (hS : Stores sb I) (h0 : I [] w) (a₁ : α → Act)
    (hassign : ∀ (F : Fence) (l m : Nat) (x : α) (W : World) (K : Act → World → Prop), Wide P F → F.round = some l → K (a₁ x) W →
      assign.wpIn F m P (Exit.then K (fun _ _ _ => False)) { tmps := (ps.zip (enc x)).foldl (fun t (p, v) => t.setIfInBounds p v) a.tmps, defers := [] } W)
    (hbody : ∀ (F : Fence) (l m : Nat) (pre : List α) (x : α) (rest : List α) (W : World), Wide P F → F.round = some l → 1 ≤ m → w.heap.size ≤ l → xs = pre ++ x :: rest → (∃ r, W.heap[l]? = some (.loop r)) → I pre W →
      body.wpIn F m P (goesOn w.heap.size S I (pre ++ [x]) W) (a₁ x) W)
    (hdone : ∀ (D : Nat) (W : World), w.heap.size ≤ D → I xs W → W.heap[D]? = some (.deferred (some [])) → Q .normal { a with defers := { target := .collected D, args := #[] } :: a.defers } W) :
    (Code.rangeFunc g ps assign body).wp P Q a w :=
  (wpIn_wide (n := 9)).1 (wpIn_seqc rfl (by decide) hg trivial eg (hseq 8 (by decide)) hsb hn₀ hps I hI hS h0 a₁
    (fun l x W K hK => hassign _ l _ x W K ((Wide.wide P).inRound l) rfl hK)
    (fun l pre x rest W hl hx hr hi => hbody _ l _ pre x rest W ((Wide.wide P).inRound l) rfl (by decide) hl hx hr hi) hdone)

/-- a function's end behind one such loop -/
theorem bodyM_ret1 {fn : Func} {R : Ending → World → Prop} {tmps : Array Value} {W : World} {D : Nat} {v : Value} (hD : W.heap[D]? = some (.deferred (some [])))
    (hr : (results fn tmps).run P (W.putObj D (.deferred none)) = .ok v (W.putObj D (.deferred none))) (hR : R (.returned v) (W.putObj D (.deferred none))) :
    bodyPostM F n P fn R .ret { tmps := tmps, defers := [{ target := .collected D, args := #[] }] } W :=
  ⟨by simp, .inl ⟨D, _, rfl, run_takeDeferred hD, v, hr, hR⟩⟩
end Go.Proofs.YtnefcilopgcdpaaGreatDoor
