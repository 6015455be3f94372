/- a range over a function whose iterator writes its own variables: the statement's entry, and one round, for whatever invariant -/
import Derived.RangeFuncNested
import Derived.RangeFuncLeaves
import Derived.WalkKit
namespace Go.Proofs.YtfbbjfbnkcklgaaGreatDoor
open Go.RowKit
variable {F : Fence} {n m : Nat} {P : Program}

def readyAt (fn : Nat) (tmps : Array Value) (ps : Array Tmp) (assign body : Code) (D : Nat) (st : LoopState) (pe : Option Code) : Loop :=
  { state := st, pending := pe, fn, tmps, params := ps, assign, body, defers := D }

theorem enter_range {g : Operand} {ps : Array Tmp} {assign body : Code} {Q : Exit → Act → World → Prop} {a : Act} {w : World} (hro : F.round = none) (h1 : 1 ≤ n) {gf : Nat} {lb : Array Value} (hg : a.eval g = .func (.func gf) #[] lb) (hFg : F.fn gf)
    (eg : ∀ args w, (callFunc gf args).run P w = .ok (.enter gf args) w)
    (h : ∀ fn (rec : LoopState → Option Code → Loop), F.fn fn → rec = readyAt fn a.tmps ps assign body w.heap.size → CallsIn F (n - 1) P gf (#[.func (.yield (w.heap.size + 1)) #[] #[]] ++ lb) ((w.alloc (.deferred (some []))).alloc (.loop (rec .ready none)))
      (rangePost F n P (w.heap.size + 1) Q { a with defers := [{ target := .collected w.heap.size, args := #[] }] ++ a.defers })) :
    (Code.rangeFunc g ps assign body).wpIn F n P Q a w := by
  refine wpIn_rangeFunc fun fn hfn => ?_
  rw [hro]
  refine ⟨w.heap.size + 1, [{ target := .collected w.heap.size, args := #[] }], (w.alloc (.deferred (some []))).alloc (.loop (readyAt fn a.tmps ps assign body w.heap.size .ready none)),
    { target := .fn (.func gf) lb, args := #[.func (.yield (w.heap.size + 1)) #[] #[]] }, (w.alloc (.deferred (some []))).alloc (.loop (readyAt fn a.tmps ps assign body w.heap.size .ready none)), gf, _,
    (w.alloc (.deferred (some []))).alloc (.loop (readyAt fn a.tmps ps assign body w.heap.size .ready none)), run_enterLoop_outer _ _ _ _ _, ?_, ?_, ?_, fun _ => h1, h fn _ hfn rfl⟩
  · simp only [resolve, hg]
    simp [go_sem]
  · intro f' hf'
    simp [Target.leads] at hf'
    subst hf'
    exact hFg
  · simp [invoke, go_sem, eg]

theorem round_at {l fn D : Nat} {tmps : Array Value} {ps : Array Tmp} {assign body : Code} {args : Array Value} {W : World} {R : Ending → World → Prop} (hl : W.heap[l]? = some (.loop (readyAt fn tmps ps assign body D .ready none))) (hps : args.size = ps.size) (hF : F.fn fn) (a₁ : Act)
    (hassign : ∀ K : Act → World → Prop, K a₁ W → assign.wpIn (F.inRound l) m P (Exit.then K (fun _ _ _ => False)) { tmps := (ps.zip args).foldl (fun t (p, v) => t.setIfInBounds p v) tmps, defers := [] } W)
    (hbody : body.wpIn (F.inRound l) m P (roundPost P l R) a₁ (W.putObj l (.loop (readyAt fn tmps ps assign body D .busy none)))) :
    YieldAt F m P l args W R :=
  ⟨fn, _, assign, body, run_yield (P := P) (args := args) hl hps, roundIn_of_wpIn hF (hassign _ ⟨_, run_beginRound hl rfl, hbody⟩)⟩

theorem end_round {l fn D : Nat} {tmps : Array Value} {ps : Array Tmp} {assign body : Code} {W : World} (jump : Option Code) (hl : W.heap[l]? = some (.loop (readyAt fn tmps ps assign body D .busy none))) :
    (Instr.endRound l jump).run P W = .ok (.bool jump.isNone) (W.putObj l (.loop (readyAt fn tmps ps assign body D (if jump.isNone then .ready else .done) jump))) :=
  run_endRound jump hl

end Go.Proofs.YtfbbjfbnkcklgaaGreatDoor
