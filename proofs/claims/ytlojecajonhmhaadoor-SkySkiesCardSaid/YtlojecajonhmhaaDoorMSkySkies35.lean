/-
  A range over a function whose rounds come in a known order: the body is asked, at round k, for what the iterator hands over at round k alone. Conditions: no round leaves the loop; nothing here names the program. (Its steps are those of the library's laws on ranges over a function, turned to numbered rounds.)
-/
import Derived.Test.YtlojecajonhmhaaDoorMSkySkies34
import Derived.RangeFuncBox
import Derived.RangeFuncLeaves
import Derived.RangeFuncFrom
import Derived.RangeFuncWrites
set_option linter.unusedVariables false
set_option linter.unusedSimpArgs false
namespace Go.Dam
open Go Go.RowKit
set_option linter.unusedVariables false
theorem BelowBut.own {β : Type} {n₀ e : Nat} {w₀ : World} {B : Nat} (hn : n₀ ≤ w₀.heap.size) (hB : n₀ ≤ B) : OwnFrom B (fun (_ : β) W => BelowBut n₀ e w₀ W) :=
  fun s W W' row hs hg hr => hs.trans ⟨hg.os, hg.tape, hg.output, hg.size, fun i hi _ => hg.block i (by have := hs.size; omega) (fun e' => by have := (hr i e'.symm).1; omega)⟩
theorem BelowBut.put {n₀ e : Nat} {w : World} (hn : n₀ ≤ w.heap.size) (W : World) (l : Nat) (o o' : Obj) (hl : w.heap.size ≤ l) (h : W.heap[l]? = some o) (h1 : o.isCells = false) (h2 : o.isWalk = false) : BelowBut n₀ e W (W.putObj l o') := .of_below (belowK_b hn W l o o' hl h h1 h2)
/-- What a round leaves behind. -/
def StepPost (B n₀ e : Nat) (I : Nat → World → Prop) (k : Nat) (W : World) : Exit → Act → World → Prop
  | .normal, _, W' => KeepsFrom B W W' ∧ BelowBut n₀ e W W' ∧ I (k + 1) W'
  | _, _, _ => False
/-- The iterator's contract: m rounds, the k-th with enc k. -/
def SeqSteps (F : Fence) (n : Nat) (P : Program) (g : Nat) (lb : Array Value) (enc : Nat → Array Value) (m n₀ eB : Nat) (w : World) : Prop :=
  ∀ (l : Nat) (J : Nat → World → Prop) (W : World), Below w.heap.size w W → AbidesFrom W.heap.size J →
    (∀ k W1, k < m → J k W1 → YieldAt F (n - 1) P l (enc k) W1 fun e W' => e = .returned (.bool true) ∧ J (k + 1) W' ∧ BelowBut n₀ eB W1 W') →
    J 0 W → CallsIn F n P g (#[.func (.yield l) #[] #[]] ++ lb) W fun e W' => (∃ v, e = .returned v) ∧ J m W'
theorem wpIn_rangeFunc_steps {F : Fence} {n : Nat} {P : Program} {g : Operand} {ps : Array Tmp} {assign body : Code} {Q : Exit → Act → World → Prop} {a : Act} {w : World}
    (hro : F.round = none) (h1 : 1 ≤ n) {gf : Nat} {lb : Array Value} (hg : a.eval g = .func (.func gf) #[] lb) (hFg : F.fn gf) (eg : ∀ args w, (callFunc gf args).run P w = .ok (.enter gf args) w)
    {enc : Nat → Array Value} {m n₀ eB : Nat} {w0 : World} (hseq : SeqSteps F (n - 1) P gf lb enc m n₀ eB w0) (hn₀ : n₀ ≤ w.heap.size) (hb0 : Below w0.heap.size w0 w) (hps : ∀ k, (enc k).size = ps.size)
    (I : Nat → World → Prop) (hI : OwnFrom w.heap.size I) (h0 : I 0 w) (I' : Act → Nat → World → Prop) (hI' : ∀ a', OwnFrom w.heap.size (I' a'))
    (hassign : ∀ (l : Nat) (k : Nat) (W : World) (K : Act → World → Prop), k < m → I k W → (∀ a' W', KeepsFrom w.heap.size W W' → BelowBut n₀ eB W W' → I' a' k W' → K a' W') →
      assign.wpIn (F.inRound l) (n - 1 - 1) P (Exit.then K (fun _ _ _ => False)) { tmps := (ps.zip (enc k)).foldl (fun t (p, v) => t.setIfInBounds p v) a.tmps, defers := [] } W)
    (hbody : ∀ (l : Nat) (k : Nat) (a' : Act) (W : World), k < m → I' a' k W → body.wpIn (F.inRound l) (n - 1 - 1) P (StepPost w.heap.size n₀ eB I k W) a' W)
    (hdone : ∀ (D : Nat) (W : World), w.heap.size ≤ D → I m W → W.heap[D]? = some (.deferred (some [])) → Q .normal { a with defers := { target := .collected D, args := #[] } :: a.defers } W) :
    (Code.rangeFunc g ps assign body).wpIn F n P Q a w := by
  refine wpIn_rangeFunc ?_
  intro fn hfn
  rw [hro]
  obtain ⟨rec, hrec⟩ : ∃ rec : LoopState → Loop, rec = fun st => { state := st, pending := none, fn, tmps := a.tmps, params := ps, assign, body, defers := w.heap.size } := ⟨_, rfl⟩
  obtain ⟨W1, hW1⟩ : ∃ W1, (w.alloc (.deferred (some []))).alloc (.loop (rec .ready)) = W1 := ⟨_, rfl⟩
  have z1 : W1.heap.size = w.heap.size + 1 + 1 := by rw [← hW1]; simp
  have r1 : W1.heap[w.heap.size + 1]? = some (.loop (rec .ready)) := by
    rw [← hW1]
    have := World.alloc_heap_new (w.alloc (.deferred (some []))) (.loop (rec .ready))
    rwa [World.size_alloc] at this
  have d1 : W1.heap[w.heap.size]? = some (.deferred (some [])) := by
    rw [← hW1]; exact (Below.heap_alloc _ _ _ (by simp)).trans (World.alloc_heap_new w _)
  have i1 : I 0 W1 := by rw [← hW1]; exact hI.alloc _ (hI.alloc _ h0)
  have b1 : Below w0.heap.size w0 W1 := by
    rw [← hW1]; exact hb0.trans ((((Below.refl _ w).alloc (Nat.le_refl _) _).alloc (by simp) _).mono hb0.size)
  refine ⟨w.heap.size + 1, [{ target := .collected w.heap.size, args := #[] }], W1, { target := .fn (.func gf) lb, args := #[.func (.yield (w.heap.size + 1)) #[] #[]] }, W1, gf,
    #[.func (.yield (w.heap.size + 1)) #[] #[]] ++ lb, W1, ?_, ?_, ?_, ?_, fun _ => h1, ?_⟩
  · rw [← hW1, hrec]; exact run_enterLoop_outer _ _ _ _ _
  · simp only [resolve, hg]
    simp [go_sem]
  · intro f' hf'; simp [Target.leads] at hf'; subst hf'; exact hFg
  · simp [invoke, go_sem, eg]
  have keep : ∀ {A B : World} {row : Option Nat}, A.grownBy B row → (∀ r, row = some r → W1.heap.size ≤ r ∧ ∃ o : Obj, A.heap[r]? = some o ∧ o.isWalk = true) → ∀ {k : Nat} {o : Obj}, A.heap[k]? = some o → o.isWalk = false → B.heap[k]? = some o := fun hg' hr _ _ hk hw => (grownBy_keeps hg' (fun r e => (hr r e).2) hk hw).trans hk
  refine (hseq (w.heap.size + 1) (fun k W => I k W ∧ W.heap[w.heap.size + 1]? = some (.loop (rec .ready)) ∧ W.heap[w.heap.size]? = some (.deferred (some []))) W1 b1 ?_ ?_ ⟨i1, r1, d1⟩).mono ?_
  · rintro k A B row ⟨x1, x2, x3⟩ hg' hr
    exact ⟨hI k A B row x1 hg' (fun r e => by obtain ⟨hB, o, ho, hw⟩ := hr r e; exact ⟨by omega, o, ho, Obj.not_cells_of_walk hw⟩), keep hg' hr x2 rfl, keep hg' hr x3 rfl⟩
  · rintro k W hk ⟨x1, x2, x3⟩
    have lt2 : w.heap.size + 1 < W.heap.size := (Array.getElem?_eq_some_iff.1 x2).1
    have hy := run_yield (P := P) (args := enc k) x2 (by rw [hrec]; exact hps k)
    rw [hrec] at hy
    refine ⟨fn, _, assign, body, hy, roundIn_of_wpIn hfn (hassign _ k W _ hk x1 fun a' W' g1 g2 g3 => ?_)⟩
    have v2 := g1.same _ _ (by omega) x2 rfl
    have v3 := g1.same _ _ (Nat.le_refl _) x3 rfl
    have lt3 : w.heap.size + 1 < W'.heap.size := (Array.getElem?_eq_some_iff.1 v2).1
    refine ⟨_, run_beginRound v2 (by rw [hrec]), ?_⟩
    have y2 : (W'.putObj (w.heap.size + 1) (.loop { rec .ready with state := .busy })).heap[w.heap.size + 1]? = some (.loop { rec .ready with state := .busy }) := World.putObj_heap_same lt3
    have y3 : (W'.putObj (w.heap.size + 1) (.loop { rec .ready with state := .busy })).heap[w.heap.size]? = some (.deferred (some [])) := (World.putObj_heap_other (by omega)).trans v3
    have yb : BelowBut n₀ eB W (W'.putObj (w.heap.size + 1) (.loop { rec .ready with state := .busy })) := g2.trans (BelowBut.put hn₀ _ _ _ _ (by omega) v2 rfl rfl)
    refine wpIn_mono (hbody _ k a' _ hk ((hI' a').putObj _ g3 (by omega) v2 rfl)) ?_
    rintro e a3 W3 hp
    cases e with
    | normal =>
      obtain ⟨p1, p2, p3⟩ := hp
      have q2 := p1.same _ _ (by omega) y2 rfl
      have q3 := p1.same _ _ (Nat.le_refl _) y3 rfl
      have hr := run_endRound (P := P) none q2
      rw [hrec] at hr
      refine ⟨_, _, hr, rfl, ⟨hI.putObj _ p3 (by omega) q2 rfl, ?_, (World.putObj_heap_other (by omega)).trans q3⟩, (yb.trans p2).trans (BelowBut.put hn₀ _ _ _ _ (by omega) q2 rfl rfl)⟩
      rw [hrec]
      exact World.putObj_heap_same (Array.getElem?_eq_some_iff.1 q2).1
    | ret => exact hp.elim
    | exit id => exact hp.elim
    | goto t => exact hp.elim
    | panic ch => exact hp.elim
    | outgrown => exact hp.elim
  · rintro e W2 ⟨⟨v, rfl⟩, x1, x2, x3⟩
    have hr := run_endLoop (P := P) x2 (by rw [hrec]; simp)
    rw [hrec] at hr
    exact ⟨none, _, hr, hdone _ _ (Nat.le_refl _) (hI.putObj _ x1 (by omega) x2 rfl) ((World.putObj_heap_other (by omega)).trans x3)⟩
end Go.Dam
