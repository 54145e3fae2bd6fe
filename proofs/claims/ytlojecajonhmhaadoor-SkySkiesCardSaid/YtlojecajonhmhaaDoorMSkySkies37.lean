/-
  A range over a function whose rounds come in a known order, and whose body turns some old blocks: the laws of XSeqSteps with a set of blocks in the place of one; slices.Backward over a slice of ints. Conditions: no round leaves the loop.
-/
import Derived.Test.YtlojecajonhmhaaDoorMSkySkies36
set_option linter.unusedVariables false
set_option linter.unusedSimpArgs false
namespace Go.Dam
open Go Go.RowKit
set_option linter.unusedVariables false
/-- Nothing below n₀ has turned, but for the block e. -/
structure BelowOff (n₀ : Nat) (e : Nat → Prop) (W W' : World) : Prop where
  os : W'.os = W.os
  tape : W'.tape = W.tape
  output : W'.output = W.output
  size : W.heap.size ≤ W'.heap.size
  block : ∀ i, i < n₀ → ¬ e i → W'.heap[i]? = W.heap[i]?
theorem BelowOff.refl (n₀ : Nat) (e : Nat → Prop) (W : World) : BelowOff n₀ e W W := ⟨rfl, rfl, rfl, Nat.le_refl _, fun _ _ _ => rfl⟩
theorem BelowOff.trans {n₀ : Nat} {e : Nat → Prop} {A B C : World} (h : BelowOff n₀ e A B) (k : BelowOff n₀ e B C) : BelowOff n₀ e A C :=
  ⟨k.os.trans h.os, k.tape.trans h.tape, k.output.trans h.output, Nat.le_trans h.size k.size, fun i hi he => (k.block i hi he).trans (h.block i hi he)⟩
theorem BelowOff.of_below {n₀ : Nat} {e : Nat → Prop} {A B : World} (h : Below n₀ A B) : BelowOff n₀ e A B := ⟨h.os, h.tape, h.output, h.size, fun i hi _ => h.block i hi⟩
theorem BelowOff.below {n₀ : Nat} {e : Nat → Prop} {A B : World} (h : BelowOff n₀ e A B) {m : Nat} (hm : m ≤ n₀) (he : ∀ i, i < m → ¬ e i) : Below m A B := ⟨h.os, h.tape, h.output, h.size, fun i hi => h.block i (by omega) (he i hi)⟩
theorem BelowOff.cell {n₀ : Nat} {e : Nat → Prop} {A B : World} (h : BelowOff n₀ e A B) {p : Addr} (hp : p.block < n₀) (he : ¬ e p.block) : B.cell? p = A.cell? p := World.cell?_of_block (w := A) (h.block p.block hp he)
theorem BelowOff.setCell {n₀ : Nat} {e : Nat → Prop} {A B : World} (h : BelowOff n₀ e A B) {b : Nat} (hb : e b) (u : Value) (o : Nat) : BelowOff n₀ e A (B.setCell ⟨b, o, none⟩ u) :=
  h.trans ⟨rfl, rfl, rfl, by simp [World.setCell], fun i _ he => Below.heap_setCell _ _ _ _ fun h => he (h ▸ hb)⟩
theorem BelowOff.alloc {n₀ : Nat} {e : Nat → Prop} {A B : World} (h : BelowOff n₀ e A B) (hz : n₀ ≤ B.heap.size) (o : Obj) : BelowOff n₀ e A (B.alloc o) := h.trans (.of_below ((Below.refl _ _).alloc hz o))
theorem BelowOff.own {β : Type} {n₀ : Nat} {e : Nat → Prop} {w₀ : World} {B : Nat} (hn : n₀ ≤ w₀.heap.size) (hB : n₀ ≤ B) : OwnFrom B (fun (_ : β) W => BelowOff n₀ e w₀ W) :=
  fun s W W' row hs hg hr => hs.trans ⟨hg.os, hg.tape, hg.output, hg.size, fun i hi _ => hg.block i (by have := hs.size; omega) (fun e' => by have := (hr i e'.symm).1; omega)⟩
theorem BelowOff.put {n₀ : Nat} {e : Nat → Prop} {w : World} (hn : n₀ ≤ w.heap.size) (W : World) (l : Nat) (o o' : Obj) (hl : w.heap.size ≤ l) (h : W.heap[l]? = some o) (h1 : o.isCells = false) (h2 : o.isWalk = false) : BelowOff n₀ e W (W.putObj l o') := .of_below (belowK_b hn W l o o' hl h h1 h2)
/-- What a round leaves behind. -/
def StepPostO (B n₀ : Nat) (e : Nat → Prop) (I : Nat → World → Prop) (k : Nat) (W : World) : Exit → Act → World → Prop
  | .normal, _, W' => KeepsFrom B W W' ∧ BelowOff n₀ e W W' ∧ I (k + 1) W'
  | _, _, _ => False
/-- The iterator's contract: m rounds, the k-th with enc k. -/
def SeqStepsO (F : Fence) (n : Nat) (P : Program) (g : Nat) (lb : Array Value) (enc : Nat → Array Value) (m n₀ : Nat) (eB : Nat → Prop) (w : World) : Prop :=
  ∀ (l : Nat) (J : Nat → World → Prop) (W : World), Below w.heap.size w W → AbidesFrom W.heap.size J →
    (∀ k W1, k < m → J k W1 → YieldAt F (n - 1) P l (enc k) W1 fun e W' => e = .returned (.bool true) ∧ J (k + 1) W' ∧ BelowOff n₀ eB W1 W') →
    J 0 W → CallsIn F n P g (#[.func (.yield l) #[] #[]] ++ lb) W fun e W' => (∃ v, e = .returned v) ∧ J m W'
theorem wpIn_rangeFunc_stepsO {F : Fence} {n : Nat} {P : Program} {g : Operand} {ps : Array Tmp} {assign body : Code} {Q : Exit → Act → World → Prop} {a : Act} {w : World}
    (hro : F.round = none) (h1 : 1 ≤ n) {gf : Nat} {lb : Array Value} (hg : a.eval g = .func (.func gf) #[] lb) (hFg : F.fn gf) (eg : ∀ args w, (callFunc gf args).run P w = .ok (.enter gf args) w)
    {enc : Nat → Array Value} {m n₀ : Nat} {eB : Nat → Prop} {w0 : World} (hseq : SeqStepsO F (n - 1) P gf lb enc m n₀ eB w0) (hn₀ : n₀ ≤ w.heap.size) (hb0 : Below w0.heap.size w0 w) (hps : ∀ k, (enc k).size = ps.size)
    (I : Nat → World → Prop) (hI : OwnFrom w.heap.size I) (h0 : I 0 w) (I' : Act → Nat → World → Prop) (hI' : ∀ a', OwnFrom w.heap.size (I' a'))
    (hassign : ∀ (l : Nat) (k : Nat) (W : World) (K : Act → World → Prop), k < m → I k W → (∀ a' W', KeepsFrom w.heap.size W W' → BelowOff n₀ eB W W' → I' a' k W' → K a' W') →
      assign.wpIn (F.inRound l) (n - 1 - 1) P (Exit.then K (fun _ _ _ => False)) { tmps := (ps.zip (enc k)).foldl (fun t (p, v) => t.setIfInBounds p v) a.tmps, defers := [] } W)
    (hbody : ∀ (l : Nat) (k : Nat) (a' : Act) (W : World), k < m → I' a' k W → body.wpIn (F.inRound l) (n - 1 - 1) P (StepPostO w.heap.size n₀ eB I k W) a' W)
    (hdone : ∀ (D : Nat) (W : World), w.heap.size ≤ D → I m W → W.heap[D]? = some (.deferred (some [])) → Q .normal { a with defers := { target := .collected D, args := #[] } :: a.defers } W) :
    (Code.rangeFunc g ps assign body).wpIn F n P Q a w := by
  refine wpIn_rangeFunc ?_
  intro fn hfn
  rw [hro]
  obtain ⟨rec, hrec⟩ : ∃ rec : LoopState → Loop, rec = fun st => { state := st, pending := none, fn, tmps := a.tmps, params := ps, assign, body, defers := w.heap.size } := ⟨_, rfl⟩
  obtain ⟨W1, hW1⟩ : ∃ W1, (w.alloc (.deferred (some []))).alloc (.loop (rec .ready)) = W1 := ⟨_, rfl⟩
  have z1 : W1.heap.size = w.heap.size + 1 + 1 := by rw [← hW1]; simp
  have r1 : W1.heap[w.heap.size + 1]? = some (.loop (rec .ready)) := by
    rw [← hW1]
    have := World.alloc_heap_new (w.alloc (.deferred (some []))) (.loop (rec .ready))
    rwa [World.size_alloc] at this
  have d1 : W1.heap[w.heap.size]? = some (.deferred (some [])) := by
    rw [← hW1]; exact (Below.heap_alloc _ _ _ (by simp)).trans (World.alloc_heap_new w _)
  have i1 : I 0 W1 := by rw [← hW1]; exact hI.alloc _ (hI.alloc _ h0)
  have b1 : Below w0.heap.size w0 W1 := by
    rw [← hW1]; exact hb0.trans ((((Below.refl _ w).alloc (Nat.le_refl _) _).alloc (by simp) _).mono hb0.size)
  refine ⟨w.heap.size + 1, [{ target := .collected w.heap.size, args := #[] }], W1, { target := .fn (.func gf) lb, args := #[.func (.yield (w.heap.size + 1)) #[] #[]] }, W1, gf,
    #[.func (.yield (w.heap.size + 1)) #[] #[]] ++ lb, W1, ?_, ?_, ?_, ?_, fun _ => h1, ?_⟩
  · rw [← hW1, hrec]; exact run_enterLoop_outer _ _ _ _ _
  · simp only [resolve, hg]
    simp [go_sem]
  · intro f' hf'; simp [Target.leads] at hf'; subst hf'; exact hFg
  · simp [invoke, go_sem, eg]
  have keep : ∀ {A B : World} {row : Option Nat}, A.grownBy B row → (∀ r, row = some r → W1.heap.size ≤ r ∧ ∃ o : Obj, A.heap[r]? = some o ∧ o.isWalk = true) → ∀ {k : Nat} {o : Obj}, A.heap[k]? = some o → o.isWalk = false → B.heap[k]? = some o := fun hg' hr _ _ hk hw => (grownBy_keeps hg' (fun r e => (hr r e).2) hk hw).trans hk
  refine (hseq (w.heap.size + 1) (fun k W => I k W ∧ W.heap[w.heap.size + 1]? = some (.loop (rec .ready)) ∧ W.heap[w.heap.size]? = some (.deferred (some []))) W1 b1 ?_ ?_ ⟨i1, r1, d1⟩).mono ?_
  · rintro k A B row ⟨x1, x2, x3⟩ hg' hr
    exact ⟨hI k A B row x1 hg' (fun r e => by obtain ⟨hB, o, ho, hw⟩ := hr r e; exact ⟨by omega, o, ho, Obj.not_cells_of_walk hw⟩), keep hg' hr x2 rfl, keep hg' hr x3 rfl⟩
  · rintro k W hk ⟨x1, x2, x3⟩
    have lt2 : w.heap.size + 1 < W.heap.size := (Array.getElem?_eq_some_iff.1 x2).1
    have hy := run_yield (P := P) (args := enc k) x2 (by rw [hrec]; exact hps k)
    rw [hrec] at hy
    refine ⟨fn, _, assign, body, hy, roundIn_of_wpIn hfn (hassign _ k W _ hk x1 fun a' W' g1 g2 g3 => ?_)⟩
    have v2 := g1.same _ _ (by omega) x2 rfl
    have v3 := g1.same _ _ (Nat.le_refl _) x3 rfl
    have lt3 : w.heap.size + 1 < W'.heap.size := (Array.getElem?_eq_some_iff.1 v2).1
    refine ⟨_, run_beginRound v2 (by rw [hrec]), ?_⟩
    have y2 : (W'.putObj (w.heap.size + 1) (.loop { rec .ready with state := .busy })).heap[w.heap.size + 1]? = some (.loop { rec .ready with state := .busy }) := World.putObj_heap_same lt3
    have y3 : (W'.putObj (w.heap.size + 1) (.loop { rec .ready with state := .busy })).heap[w.heap.size]? = some (.deferred (some [])) := (World.putObj_heap_other (by omega)).trans v3
    have yb : BelowOff n₀ eB W (W'.putObj (w.heap.size + 1) (.loop { rec .ready with state := .busy })) := g2.trans (BelowOff.put hn₀ _ _ _ _ (by omega) v2 rfl rfl)
    refine wpIn_mono (hbody _ k a' _ hk ((hI' a').putObj _ g3 (by omega) v2 rfl)) ?_
    rintro e a3 W3 hp
    cases e with
    | normal =>
      obtain ⟨p1, p2, p3⟩ := hp
      have q2 := p1.same _ _ (by omega) y2 rfl
      have q3 := p1.same _ _ (Nat.le_refl _) y3 rfl
      have hr := run_endRound (P := P) none q2
      rw [hrec] at hr
      refine ⟨_, _, hr, rfl, ⟨hI.putObj _ p3 (by omega) q2 rfl, ?_, (World.putObj_heap_other (by omega)).trans q3⟩, (yb.trans p2).trans (BelowOff.put hn₀ _ _ _ _ (by omega) q2 rfl rfl)⟩
      rw [hrec]
      exact World.putObj_heap_same (Array.getElem?_eq_some_iff.1 q2).1
    | ret => exact hp.elim
    | exit id => exact hp.elim
    | goto t => exact hp.elim
    | panic ch => exact hp.elim
    | outgrown => exact hp.elim
  · rintro e W2 ⟨⟨v, rfl⟩, x1, x2, x3⟩
    have hr := run_endLoop (P := P) x2 (by rw [hrec]; simp)
    rw [hrec] at hr
    exact ⟨none, _, hr, hdone _ _ (Nat.le_refl _) (hI.putObj _ x1 (by omega) x2 rfl) ((World.putObj_heap_other (by omega)).trans x3)⟩
end Go.Dam
namespace Go.Proofs.YtlojecajonhmhaaDoor
open Go Go.RowKit Go.Dam Go.Shelf Go.Proofs
set_option linter.unusedVariables false
attribute [local go_sem] Oper.semAt_some
set_option maxHeartbeats 1000000 in
theorem seqBackwardO (F : Fence) (n : Nat) (h5 : F.fn 22) (hro : F.round = none) (a : Option Addr) (len cap : Nat) (w : World) :
    CallsIn F n Tryd.prog 22 #[.slice a len cap] w fun e w' => e = .returned (.func (.func 43) #[] #[.pointer (some ⟨w.heap.size, 0, none⟩)]) ∧ w' = w.alloc (.cells #[.slice a len cap] 33) := by
  refine callsIn_of_wp Tryd.func22 rfl h5 ?_ hro
  simp only [Tryd.ntmps22, List.size_toArray, List.length_cons, List.length_nil, Nat.reduceAdd, Nat.reduceSub, Array.replicate_succ, Array.replicate_zero, List.push_toArray, List.append_toArray, List.nil_append, List.cons_append]
  gi_wp2
  go_ret
  exact ⟨rfl, rfl⟩
set_option maxRecDepth 100000 in
set_option maxHeartbeats 4000000 in
theorem seqBackI_stepsO (F : Fence) (n : Nat) (h7 : F.fn 43) (hro : F.round = none) (hn : 1 ≤ n) (Bs b n₀ : Nat) (eB : Nat → Prop) (m cap : Nat) (A : Option Addr) (vs : List Value) (hm : m ≤ 1000000) (w : World) (hBs : Bs < n₀) (hBe : ¬ eB Bs) (hn₀ : n₀ ≤ w.heap.size) (hcap : m ≤ cap)
    (hc : w.cell? ⟨Bs, 0, none⟩ = some (.slice A m cap)) (hA : 0 < m → A = some ⟨b, 0, none⟩ ∧ b < n₀ ∧ ¬ eB b) (hcs : ∀ j, j < m → w.cell? ⟨b, j, none⟩ = some (vs.getD j undef)) :
    SeqStepsO F n Tryd.prog 43 #[.pointer (some ⟨Bs, 0, none⟩)] (backEnc vs m) m n₀ eB w := by
  intro l J W hW hJ hY h0
  have hc1 : W.cell? ⟨Bs, 0, none⟩ = some (.slice A m cap) := (hW.cell (p := ⟨Bs, 0, none⟩) (by show Bs < _; omega)).trans hc
  have HY := Lib.hid hY
  clear hY
  refine callsIn_of_wp Tryd.func43 rfl h7 ?_ hro
  simp only [Tryd.ntmps43, List.size_toArray, List.length_cons, List.length_nil, Nat.reduceAdd, Nat.reduceSub, Array.replicate_succ, Array.replicate_zero, List.push_toArray, List.append_toArray, List.nil_append, List.cons_append]
  have hw0 : IntKind.i64.wrap ((m : Int) - 1) = (m : Int) - 1 := by rw [IntKind.wrap_i64]; omega
  gi_wp2
  gi_loopw [3] (fun i wr => ∃ (r : Int) (k : Nat), i = .int .i64 r ∧ r + 1 + (k : Int) = (m : Int) ∧ k ≤ m ∧ J k wr ∧ BelowOff n₀ eB W wr) (fun i _ => (intOf i + 1).toNat)
  case atStart => exact ⟨(m : Int) - 1, 0, rfl, by omega, by omega, h0, BelowOff.refl _ _ _⟩
  case round =>
    obtain ⟨r, k, rfl, hrk, hkm, hJk, hb⟩ := hrel
    by_cases hlt : k < m
    · obtain ⟨j, rfl⟩ : ∃ j : Nat, r = (j : Int) := ⟨r.toNat, by omega⟩
      obtain ⟨rfl, hbn, hbe⟩ := hA (by omega)
      have ej : m - 1 - k = j := by omega
      obtain ⟨fn, tmps, assign, body, hy, hR⟩ := HY.out k wr hlt hJk
      unfold backEnc at hy
      rw [ej] at hy
      have k0 : wr.cell? ⟨Bs, 0, none⟩ = some (.slice (some ⟨b, 0, none⟩) m cap) := (hb.cell (p := ⟨Bs, 0, none⟩) hBs hBe).trans hc1
      have k1 : wr.cell? ⟨b, j, none⟩ = some (vs.getD j undef) := (hb.cell (p := ⟨b, j, none⟩) hbn hbe).trans ((hW.cell (p := ⟨b, j, none⟩) (by show b < _; omega)).trans (hcs j (by omega)))
      obtain ⟨pv, hpv⟩ : ∃ x, x = vs.getD j undef := ⟨_, rfl⟩
      rw [← hpv] at k1 hy
      clear hpv ej
      have jm : (j : Int) < (m : Int) := by omega
      have jm2 : j < m := by omega
      have w1 : IntKind.i64.wrap ((j : Int) - 1) = (j : Int) - 1 := by rw [IntKind.wrap_i64]; omega
      gi_wp2
      refine hR.mono ?_
      rintro e W3 ⟨rfl, hJ3, hk3⟩
      gi_wp2
      go_roundw
      case rel => exact ⟨(j : Int) - 1, k + 1, rfl, by omega, by omega, hJ3, hb.trans hk3⟩
      case measure => simp [intOf] <;> omega
    · obtain rfl : k = m := by omega
      obtain rfl : r = -1 := by omega
      gi_wp2
      go_end0
      exact ⟨⟨_, rfl⟩, hJk⟩
end Go.Proofs.YtlojecajonhmhaaDoor
