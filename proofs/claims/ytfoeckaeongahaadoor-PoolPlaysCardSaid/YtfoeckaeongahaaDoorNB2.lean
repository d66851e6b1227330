/- (WITH A BOUND ON HOW MANY ARE YIELDED) A LOOP OVER AN ITERATOR THAT KEEPS A CELL OF ITS OWN (a variable that its closure has captured and writes): the iterator's contract, and the law of the loop. -/
import Derived.Test.YtfoeckaeongahaaDoorNB
import Derived.RangeFuncNested
import Derived.RangeFuncBound
import Derived.RangeFuncCalls
import Derived.RangeFuncLeaves
import Derived.RangeFuncBox
import Derived.OwnWalkIn
import Derived.TacticsInMore
import Derived.LoopNIn
import Derived.LoopIn
namespace Go.Proofs.YtfoeckaeongahaaDoor
open Go.RowKit
variable {F : Fence} {n : Nat} {P : Program}

/-- The iterator calls 'yield' with one after the other of what it has, or of a part where a round has said 'no more'; of what lay it writes block Bs alone. -/
def YieldsN {α : Type} (Nb : Nat) (F : Fence) (n : Nat) (P : Program) (g : Nat) (lb : Array Value) (encs : α → Array Value) (Bs : Nat) (S Sp : List α → Prop) (w : World) : Prop :=
  ∀ (l : Nat) (J Jx : List α → World → Prop) (W : World), Below w.heap.size w W → AbidesFrom W.heap.size J → AbidesFrom W.heap.size Jx →
    (∀ s W v, J s W → J s (W.setCell ⟨Bs, 0, none⟩ v)) →
    (∀ pre x W1, J pre W1 → pre.length < Nb → YieldAt F (n - 1) P l (encs x) W1 fun e W' =>
      (e = .returned (.bool true) ∧ J (pre ++ [x]) W' ∧ W'.heap[Bs]? = W1.heap[Bs]?) ∨ (e = .returned (.bool false) ∧ Jx (pre ++ [x]) W')) →
    J [] W →
    CallsIn F n P g (#[.func (.yield l) #[] #[]] ++ lb) W fun e W' => (∃ v, e = .returned v) ∧ ((∃ xs, S xs ∧ J xs W') ∨ (∃ pre, Sp pre ∧ Jx pre W'))

/-- THE LOOP. -/
theorem wpIn_yieldsN {α : Type} {Nb : Nat} {g : Operand} {ps : Array Tmp} {assign body : Code} {Q : Exit → Act → World → Prop} {a : Act} {w : World}
    (hro : F.round = none) (h1 : 1 ≤ n) {gf : Nat} {lb : Array Value} (hg : a.eval g = .func (.func gf) #[] lb) (hFg : F.fn gf) (eg : ∀ args w, (callFunc gf args).run P w = .ok (.enter gf args) w)
    {encs : α → Array Value} {S Sp : List α → Prop} {Bs : Nat} (hBs : Bs < w.heap.size) (hseq : YieldsN Nb F (n - 1) P gf lb encs Bs S Sp w) (hps : ∀ x, (encs x).size = ps.size)
    (I : List α → World → Prop) (Ix : Code → List α → World → Prop) (hI : OwnFrom w.heap.size I) (hIx : ∀ c, OwnFrom w.heap.size (Ix c)) (hIB : ∀ s W v, I s W → I s (W.setCell ⟨Bs, 0, none⟩ v)) (h0 : I [] w) (a₁ : α → Act)
    (hassign : ∀ (l : Nat) (x : α) (W : World) (K : Act → World → Prop), K (a₁ x) W →
      assign.wpIn (F.inRound l) (n - 1 - 1) P (Exit.then K (fun _ _ _ => False)) { tmps := (ps.zip (encs x)).foldl (fun t (p, v) => t.setIfInBounds p v) a.tmps, defers := [] } W)
    (hbody : ∀ (l : Nat) (pre : List α) (x : α) (W : World), I pre W → pre.length < Nb → body.wpIn (F.inRound l) (n - 1 - 1) P (roundEnds w.heap.size Bs (I (pre ++ [x])) (fun c => Ix c (pre ++ [x])) W) (a₁ x) W)
    (hdone : ∀ (D : Nat) (xs : List α) (W : World), w.heap.size ≤ D → S xs → I xs W → W.heap[D]? = some (.deferred (some [])) → Q .normal { a with defers := { target := .collected D, args := #[] } :: a.defers } W)
    (hstop : ∀ (D : Nat) (c : Code) (pre : List α) (W : World), w.heap.size ≤ D → Sp pre → Ix c pre W → W.heap[D]? = some (.deferred (some [])) → c.wpIn F n P Q { a with defers := { target := .collected D, args := #[] } :: a.defers } W) :
    (Code.rangeFunc g ps assign body).wpIn F n P Q a w := by
  refine wpIn_rangeFunc fun fn hfn => ?_
  rw [hro]
  let rec' : LoopState → Option Code → Loop := fun st pe => { state := st, pending := pe, fn, tmps := a.tmps, params := ps, assign, body, defers := w.heap.size }
  have hrec' : ∀ st pe, rec' st pe = { state := st, pending := pe, fn, tmps := a.tmps, params := ps, assign, body, defers := w.heap.size } := fun _ _ => rfl
  clear_value rec'
  -- the block of the rounds' deferred calls lies at w's size, the loop's record behind it
  have hnew : ∀ o : Obj, (w.alloc o).heap[w.heap.size]? = some o := World.alloc_heap_new w
  generalize hX : w.alloc (.deferred (some [])) = X
  have hXs : X.heap.size = w.heap.size + 1 := by rw [← hX]; exact World.size_alloc ..
  have hXd : X.heap[w.heap.size]? = some (.deferred (some [])) := by rw [← hX]; exact hnew _
  have hXb : Below w.heap.size w X := by rw [← hX]; exact (Below.refl _ w).alloc (Nat.le_refl _) _
  have hXi : I [] X := by rw [← hX]; exact hI.alloc _ h0
  generalize hY : X.alloc (.loop (rec' .ready none)) = Y
  have hYl : Y.heap[w.heap.size + 1]? = some (.loop (rec' .ready none)) := by rw [← hY, ← hXs]; exact World.alloc_heap_new X _
  have hYd : Y.heap[w.heap.size]? = some (.deferred (some [])) := by rw [← hY]; exact (Below.heap_alloc _ _ _ (by omega)).trans hXd
  have hYb : Below w.heap.size w Y := by rw [← hY]; exact hXb.alloc (by omega) _
  have hYi : I [] Y := by rw [← hY]; exact hI.alloc _ hXi
  have hYs : Y.heap.size = w.heap.size + 2 := by rw [← hY]; exact (World.size_alloc ..).trans (by omega)
  refine ⟨w.heap.size + 1, [{ target := .collected w.heap.size, args := #[] }], Y, { target := .fn (.func gf) lb, args := #[.func (.yield (w.heap.size + 1)) #[] #[]] }, Y, gf,
    #[.func (.yield (w.heap.size + 1)) #[] #[]] ++ lb, Y, ?_, ?_, ?_, ?_, fun _ => h1, ?_⟩
  · rw [← hY, ← hX, hrec']; exact run_enterLoop_outer _ _ _ _ _
  · simp only [resolve, hg]
    simp [go_sem]
  · intro f' hf'; simp [Target.leads] at hf'; subst hf'; exact hFg
  · simp [invoke, go_sem, eg]
  have turned : ∀ {A B : World} {row : Option Nat}, (∀ r, row = some r → Y.heap.size ≤ r ∧ ∃ o : Obj, A.heap[r]? = some o ∧ o.isWalk = true) → (∀ r, row = some r → w.heap.size ≤ r ∧ ∃ o : Obj, A.heap[r]? = some o ∧ o.isCells = false) :=
    fun hr r e => by obtain ⟨hB, o, ho, hw⟩ := hr r e; exact ⟨by omega, o, ho, Obj.not_cells_of_walk hw⟩
  have keeps : ∀ {A B : World} {row : Option Nat} {k : Nat} {o : Obj}, A.grownBy B row → (∀ r, row = some r → Y.heap.size ≤ r ∧ ∃ o : Obj, A.heap[r]? = some o ∧ o.isWalk = true) → A.heap[k]? = some o → o.isWalk = false → B.heap[k]? = some o :=
    fun hg hr h ho => (grownBy_keeps hg (fun r e => (hr r e).2) h ho).trans h
  refine (hseq (w.heap.size + 1)
    (fun pre W => I pre W ∧ W.heap[w.heap.size + 1]? = some (.loop (rec' .ready none)) ∧ W.heap[w.heap.size]? = some (.deferred (some [])))
    (fun pre W => ∃ c, Ix c pre W ∧ W.heap[w.heap.size + 1]? = some (.loop (rec' .done (some c))) ∧ W.heap[w.heap.size]? = some (.deferred (some [])))
    Y hYb
    (fun s A B row hs hg' hr => ⟨hI s A B row hs.1 hg' (turned (B := B) hr), keeps hg' hr hs.2.1 rfl, keeps hg' hr hs.2.2 rfl⟩)
    (fun s A B row ⟨c, hc, hl, hk⟩ hg' hr => ⟨c, hIx c s A B row hc hg' (turned (B := B) hr), keeps hg' hr hl rfl, keeps hg' hr hk rfl⟩)
    (fun s W v hs => ⟨hIB s W v hs.1, (KeepsOthers.setCell W ⟨Bs, 0, none⟩ v).same _ _ hs.2.1 rfl, (KeepsOthers.setCell W ⟨Bs, 0, none⟩ v).same _ _ hs.2.2 rfl⟩)
    ?_ ⟨hYi, hYl, hYd⟩).mono ?_
  · rintro pre x W ⟨hi, hl, hk⟩ hNb
    have hy := run_yield (P := P) (args := encs x) hl (by rw [hrec']; exact hps x)
    rw [hrec'] at hy
    refine ⟨fn, _, assign, body, hy, roundIn_of_wpIn hfn (hassign _ x W _ ⟨_, run_beginRound hl (by rw [hrec']), ?_⟩)⟩
    have hV := hI.putObj (.loop { rec' .ready none with state := .busy }) hi (show w.heap.size ≤ w.heap.size + 1 by omega) hl rfl
    have hVl : (W.putObj (w.heap.size + 1) (.loop { rec' .ready none with state := .busy })).heap[w.heap.size + 1]? = some (.loop { rec' .ready none with state := .busy }) := World.putObj_heap_same (Array.getElem?_eq_some_iff.1 hl).1
    have hVd : (W.putObj (w.heap.size + 1) (.loop { rec' .ready none with state := .busy })).heap[w.heap.size]? = some (.deferred (some [])) := (World.putObj_heap_other (by omega)).trans hk
    have hVB : (W.putObj (w.heap.size + 1) (.loop { rec' .ready none with state := .busy })).heap[Bs]? = W.heap[Bs]? := World.putObj_heap_other (by omega)
    generalize W.putObj (w.heap.size + 1) (.loop { rec' .ready none with state := .busy }) = V at hV hVl hVd hVB ⊢
    refine wpIn_mono (hbody _ pre x _ hV hNb) ?_
    have ends : ∀ (jump : Option Code) (Z : World), KeepsFrom w.heap.size V Z →
        (Instr.endRound (w.heap.size + 1) jump).run P Z = .ok (.bool jump.isNone) (Z.putObj (w.heap.size + 1) (.loop (rec' (if jump.isNone then .ready else .done) jump))) ∧
        Z.heap[w.heap.size + 1]? = some (.loop { rec' .ready none with state := .busy }) ∧
        (Z.putObj (w.heap.size + 1) (.loop (rec' (if jump.isNone then .ready else .done) jump))).heap[w.heap.size + 1]? = some (.loop (rec' (if jump.isNone then .ready else .done) jump)) ∧
        (Z.putObj (w.heap.size + 1) (.loop (rec' (if jump.isNone then .ready else .done) jump))).heap[w.heap.size]? = some (.deferred (some [])) ∧
        (Z.putObj (w.heap.size + 1) (.loop (rec' (if jump.isNone then .ready else .done) jump))).heap[Bs]? = Z.heap[Bs]? := fun jump Z hz => by
      have hz1 := hz.same _ _ (by omega) hVl rfl
      have hr := run_endRound (P := P) jump hz1
      rw [hrec'] at hr hz1 ⊢
      rw [hrec']
      exact ⟨hr, hz1, World.putObj_heap_same (Array.getElem?_eq_some_iff.1 hz1).1, (World.putObj_heap_other (by omega)).trans (hz.same _ _ (Nat.le_refl _) hVd rfl), World.putObj_heap_other (by omega)⟩
    rintro e a3 Z ⟨hz, ⟨he, hzB, hzi⟩ | ⟨c, he, hzx⟩⟩
    · cases e <;> simp only [leftBy, reduceCtorEq, Option.some.injEq] at he
      obtain ⟨r1, r2, r3, r4, r5⟩ := ends none Z hz
      exact ⟨_, _, r1, .inl ⟨rfl, ⟨hI.putObj _ hzi (by omega) r2 rfl, r3, r4⟩, r5.trans (hzB.trans hVB)⟩⟩
    · cases e <;> simp only [leftBy, reduceCtorEq, Option.some.injEq] at he
      all_goals
        subst he
        obtain ⟨r1, r2, r3, r4, -⟩ := ends (some _) Z hz
        exact ⟨_, _, r1, .inr ⟨rfl, _, (hIx _).putObj _ hzx (by omega) r2 rfl, r3, r4⟩⟩
  · rintro e Z ⟨⟨v, rfl⟩, ⟨xs, hS, hi, hl, hk⟩ | ⟨pre, hSp, c, hi, hl, hk⟩⟩
    · have hr := run_endLoop (P := P) hl (by rw [hrec']; simp)
      rw [hrec'] at hr
      exact ⟨none, _, hr, hdone _ xs _ (Nat.le_refl _) hS (hI.putObj _ hi (by omega) hl rfl) ((World.putObj_heap_other (by omega)).trans hk)⟩
    · have hr := run_endLoop (P := P) hl (by rw [hrec']; simp)
      rw [hrec'] at hr
      exact ⟨some c, _, hr, hstop _ c pre _ (Nat.le_refl _) hSp ((hIx c).putObj _ hi (by omega) hl rfl) ((World.putObj_heap_other (by omega)).trans hk)⟩
end Go.Proofs.YtfoeckaeongahaaDoor
