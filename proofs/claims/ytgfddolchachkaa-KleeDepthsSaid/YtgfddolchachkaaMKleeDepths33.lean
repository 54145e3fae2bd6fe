/-
  Contracts of the reference's cuts and cells: the closure is called at each cell between cuts, with how many places it has and in how many rectangles it lies. Conditions: the rectangles can be read as data and are not refused; the closure turns one block, and what it lays.
-/
import Derived.Test.YtgfddolchachkaaMKleeDepths29
import Derived.Test.YtgfddolchachkaaMKleeDepths31
import Derived.Test.YtgfddolchachkaaMKleeDepths32
namespace Go.Dam.Klee
open Go Go.RowKit Go.Dam
set_option linter.unusedVariables false
theorem BelowBut.less {n m e : Nat} {A B : World} (h : BelowBut n e A B) (hm : m ≤ n) : BelowBut m e A B := ⟨h.os, h.tape, h.output, h.size, fun i hi he => h.block i (by omega) he⟩
/-- What is asked of the closure of cells. -/
structure CellOk (P : Program) (l : List Int) (n : Nat) (cx cy : List Int) (g : Nat) (lb : Array Value) (gB : Nat) (J : Nat → Nat → World → Prop) (w : World) : Prop where
  eg : ∀ args w, (callFunc g args).run P w = .ok (.enter g args) w
  low : gB < w.heap.size
  grow : ∀ i k W W', J i k W → Below w.heap.size W W' → J i k W'
  skip : ∀ i k W, i + 1 < cx.length → k + 1 < cy.length → (cx.getD (i + 1) 0 - cx.getD i 0) * (cy.getD (k + 1) 0 - cy.getD k 0) = 0 → J i k W → J i (k + 1) W
  next : ∀ i W, i + 1 < cx.length → J i (cy.length - 1) W → J (i + 1) 0 W
  zero : J 0 0 w
  call : ∀ i k W, i + 1 < cx.length → k + 1 < cy.length → (cx.getD (i + 1) 0 - cx.getD i 0) * (cy.getD (k + 1) 0 - cy.getD k 0) ≠ 0 → J i k W →
    Calls P g (#[.int .i64 ((cx.getD (i + 1) 0 - cx.getD i 0) * (cy.getD (k + 1) 0 - cy.getD k 0)), .int .i64 (deepN l n (cx.getD i 0) (cy.getD k 0))] ++ lb) W fun e W' => e = .returned (.tuple #[]) ∧ J i (k + 1) W' ∧ BelowBut W.heap.size gB W W'
/-- What the loops of cells keep. -/
def CInv (tI : TypeId) (J : Nat → Nat → World → Prop) (cx cy : List Int) (base gB K : Nat) (xv yv : Value) (w0 : World) (i k : Nat) (W : World) : Prop :=
  J i k W ∧ W.ownsRow base tI 1 xv K (cx.map (Value.int .i64)) ∧ W.ownsRow base tI 1 yv K (cy.map (Value.int .i64)) ∧ BelowBut w0.heap.size gB w0 W
section
variable {tI : TypeId} {J : Nat → Nat → World → Prop} {cx cy : List Int} {base gB K i k : Nat} {xv yv : Value} {w0 W W' : World}
theorem CInv.grow (h : CInv tI J cx cy base gB K xv yv w0 i k W) (hJ : ∀ i k W W', J i k W → Below w0.heap.size W W' → J i k W') (hb : Below W.heap.size W W') : CInv tI J cx cy base gB K xv yv w0 i k W' := by
  obtain ⟨h1, h2, h3, h4⟩ := h
  exact ⟨hJ _ _ _ _ h1 (hb.mono h4.size), own_size h2 hb, own_size h3 hb, h4.trans (.of_below (hb.mono h4.size))⟩
theorem CInv.but (h : CInv tI J cx cy base gB K xv yv w0 i k W) {i' k' : Nat} (hJ : J i' k' W') (hg : gB < base) (hb : BelowBut W.heap.size gB W W') : CInv tI J cx cy base gB K xv yv w0 i' k' W' :=
  ⟨hJ, own_but h.2.1 hb hg, own_but h.2.2.1 hb hg, h.2.2.2.trans (BelowBut.less hb h.2.2.2.size)⟩
end
end Go.Dam.Klee
namespace Go.Proofs.Ytgfddolchachkaa
open Go Go.RowKit Go.Dam Go.Dam.Klee
set_option linter.unusedVariables false
theorem cells1_any (a b c d : Int) (w : World) : Calls Try.prog 130 #[.agg #[.int .i64 a, .int .i64 b, .int .i64 c, .int .i64 d]] w fun e w' => e = .returned (.tuple #[.int .i64 a, .int .i64 c]) ∧ Below w.heap.size w w' := by
  go_enter Try.func130, Try.ntmps130
  go_wp2_with fail
  go_quiet (fail)
  go_wp2
  go_ret2
  exact ⟨rfl, below_drewN ((Below.refl _ _).alloc (Nat.le_refl _) _) _⟩
theorem cells2_any (a b c d : Int) (w : World) : Calls Try.prog 131 #[.agg #[.int .i64 a, .int .i64 b, .int .i64 c, .int .i64 d]] w fun e w' => e = .returned (.tuple #[.int .i64 b, .int .i64 d]) ∧ Below w.heap.size w w' := by
  go_enter Try.func131, Try.ntmps131
  go_wp2_with fail
  go_quiet (fail)
  go_wp2
  go_ret2
  exact ⟨rfl, below_drewN ((Below.refl _ _).alloc (Nat.le_refl _) _) _⟩
set_option maxRecDepth 100000 in
set_option maxHeartbeats 8000000 in
theorem refCuts_any (g : Nat) (fa fb : Nat → Int) (F : Nat → List Int) (v : Value) (n : Nat) (l : List Int) (w : World) (B : Nat) (hB : B ≤ w.heap.size) (h : IsFlat 4 w B v n l) (hR : rcCode n l = 0) (eg : ∀ args w, (callFunc g args).run Try.prog w = .ok (.enter g args) w)
    (hF0 : F 0 = []) (hF : ∀ i, i < n → F (i + 1) = F i ++ [fa i, fb i + 1]) (hb : ∀ i, i < n → -1048576 ≤ fb i ∧ fb i ≤ 1048576)
    (hcall : ∀ i W, i < n → Calls Try.prog g #[.agg #[.int .i64 (l.getD (i * 4) 0), .int .i64 (l.getD (i * 4 + 1) 0), .int .i64 (l.getD (i * 4 + 2) 0), .int .i64 (l.getD (i * 4 + 3) 0)]] W fun e w' => e = .returned (.tuple #[.int .i64 (fa i), .int .i64 (fb i)]) ∧ Below W.heap.size W w') :
    Calls Try.prog 129 #[v, .func (.func g) #[] #[]] w fun e w' => ∃ u, e = .returned u ∧ w'.ownsRow w.heap.size 3 1 u (2 * n) ((sortI (F n)).map (Value.int .i64)) ∧ Below w.heap.size w w' := by
  obtain ⟨A, c, rfl, hc, hm, hn, hl, hr, hw⟩ := h
  obtain ⟨hn1, _⟩ := rcCode_ok hR
  have HF := Lib.hid hF
  have HFb := Lib.hid hb
  have HCa := Lib.hid hcall
  clear hF hb hcall hw hR
  go_enter Try.func129, Try.ntmps129
  go_wp2_with fail
  go_loopw [5, 12] (fun ov iv wr => ∃ i k : Nat, i ≤ n ∧ k + 0 = 2 * i ∧ iv = .int .i64 i ∧ Hid (wr.ownsRow w.heap.size 3 1 ov k ((F i).map (Value.int .i64))) ∧ Hid (Below w.heap.size w wr)) (fun _ iv _ => n - (intOf iv).toNat)
  case atStart => exact ⟨0, 0, by omega, rfl, rfl, Lib.hid (by rw [hF0]; exact World.ownsRow_nil _ _ _ _), Lib.hid (Below.refl _ _)⟩
  case round =>
    obtain ⟨wo, rfl⟩ : ∃ wo : World, wo = wr := ⟨_, rfl⟩
    obtain ⟨i, k, hi, hk, rfl, HY, HB⟩ := hrel
    obtain ⟨A1, cY, rfl⟩ := own_shape HY.out
    have hzo := HB.out.size
    by_cases hlt : i < n
    · obtain ⟨b, off, rfl, hb, hcells⟩ := flat_cells hr hl (by omega) (by omega)
      have c0 := (HB.out.cell (p := ⟨b, off + i * 4, none⟩) (by show b < _; omega)).trans (hcells (i * 4) (by omega))
      have c1 := (HB.out.cell (p := ⟨b, off + i * 4 + 1, none⟩) (by show b < _; omega)).trans (hcells (i * 4 + 1) (by omega))
      have c2 := (HB.out.cell (p := ⟨b, off + i * 4 + 2, none⟩) (by show b < _; omega)).trans (hcells (i * 4 + 2) (by omega))
      have c3 := (HB.out.cell (p := ⟨b, off + i * 4 + 3, none⟩) (by show b < _; omega)).trans (hcells (i * 4 + 3) (by omega))
      have HCi := Lib.hid fun W => HCa.out i W hlt
      have HFi := Lib.hid (HF.out i hlt)
      have hbi := HFb.out i hlt
      generalize l.getD (i * 4) 0 = x0 at *
      generalize l.getD (i * 4 + 1) 0 = x1 at *
      generalize l.getD (i * 4 + 2) 0 = x2 at *
      generalize l.getD (i * 4 + 3) 0 = x3 at *
      obtain ⟨fi, hfi⟩ : ∃ z, z = fa i := ⟨_, rfl⟩
      obtain ⟨gi, hgi⟩ : ∃ z, z = fb i := ⟨_, rfl⟩
      rw [← hfi, ← hgi] at HCi HFi
      rw [← hgi] at hbi
      have w3 : IntKind.i64.wrap (gi + 1) = gi + 1 := by rw [IntKind.wrap_i64]; omega
      have hk80 : k ≤ 80 := by omega
      have HK := Lib.hid hk
      have HC2 : Hid (∀ w2, Below (wo.alloc (.cells #[.int .i64 x0, .int .i64 x1, .int .i64 x2, .int .i64 x3] 146)).heap.size (wo.alloc (.cells #[.int .i64 x0, .int .i64 x1, .int .i64 x2, .int .i64 x3] 146)) w2 → w2.ownsRow w.heap.size 3 1 (.slice A1 k cY) k ((F i).map (Value.int .i64)) ∧ Below w.heap.size w w2) := Lib.hid fun w2 hb2 => ⟨own_size (HY.out.alloc _) hb2, (HB.out.alloc hzo _).trans (hb2.mono (by simp; omega))⟩
      clear hcells hk hr hl hfi hgi
      go_wp2_with (first
        | (go_at_fn g; refine (HCi.out _).mono ?_; rintro e w2 ⟨rfl, hb2⟩; have HS2 := Lib.hid (HC2.out w2 hb2); have hz2 := HS2.out.2.size; clear hb2)
        | (at_builtin; refine wpList_pushM el_int rfl _ _ rfl w.heap.size _ k _ (HS2.out.1.alloc _) rfl ⟨w2.heap.size, 0, none⟩ 2 _ [.int .i64 fi, .int .i64 (gi + 1)] rfl rfl (el_pair2 rfl) (by intro u hu; simp at hu; rcases hu with rfl | rfl <;> rfl) (by omega) (by omega) (by simp; omega) ?_; intro v3 w3 hown3 hg3 hl3; have HO3 := Lib.hid hown3; have HG3 := Lib.hid hg3; clear hown3 hg3 hl3))
      go_roundw
      case rel =>
        refine ⟨i + 1, k + 2, by omega, by have := HK.out; omega, by go_num, Lib.hid (by rw [HFi.out, List.map_append]; exact HO3.out), Lib.hid (below_push (HS2.out.2.alloc hz2 _) (HS2.out.1.alloc _) (Nat.le_refl _) (by simp; omega) HG3.out)⟩
      case measure => simp [intOf]; omega
    · obtain rfl : i = n := by omega
      have HK := Lib.hid hk
      have hk80 : k ≤ 80 := by omega
      clear hk hr hl
      go_wp2_with (go_at_call 164; refine (sortInts_own HY.out (by omega)).mono ?_; rintro e w2 ⟨rfl, hown2, hg2⟩)
      go_ret
      exact ⟨_, rfl, by have := HK.out; rw [← show k = 2 * i by omega]; exact hown2, below_push HB.out HY.out (Nat.le_refl _) hzo hg2⟩
end Go.Proofs.Ytgfddolchachkaa
