/-
  Texts of one claim behind each other. Conditions: none of its own.
-/
import Derived.Test.YtlojecajonhmhaaGreatDoorMQueryEvals41
import Derived.Test.YtlojecajonhmhaaGreatDoorMQueryEvals42
import Derived.Test.YtlojecajonhmhaaGreatDoorMQueryEvals44
import Derived.Test.YtlojecajonhmhaaGreatDoorMQueryEvals46
import Derived.Test.YtlojecajonhmhaaGreatDoorMQueryEvals02
set_option linter.unusedVariables false
set_option linter.unusedSimpArgs false
/-
  Contracts of query.Check and query.Print, and of the reference's QueryFault and QueryPrinted. Conditions: the expression can be read eight levels down and is not larger than the memory; the library's table of powers of ten holds what the library lays.
-/
namespace Go.Dam.Q
open Go
/-- What Check answers. -/
def checkN (x : Ex) : Int := if faultN 8 x = 0 then (if 400 < (textN 8 x).length then 1 else 0) else faultN 8 x
theorem check_bad {x : Ex} (h : faultN 8 x ≠ 0) : checkN x = faultN 8 x := by unfold checkN; rw [if_neg h]
theorem check_long {x : Ex} (h : faultN 8 x = 0) (h2 : 400 < (textN 8 x).length) : checkN x = 1 := by unfold checkN; rw [if_pos h, if_pos h2]
theorem check_fine {x : Ex} (h : faultN 8 x = 0) (h2 : ¬ 400 < (textN 8 x).length) : checkN x = 0 := by unfold checkN; rw [if_pos h, if_neg h2]
theorem check_zero {x : Ex} (h : checkN x = 0) : faultN 8 x = 0 := by
  by_cases h1 : faultN 8 x = 0
  · exact h1
  · rw [check_bad h1] at h; exact h
/-- What Print answers beside the code. -/
def PrintR (x : Ex) (S : List UInt8) : Prop := (checkN x = 0 ∧ S = textN 8 x) ∨ (checkN x ≠ 0 ∧ S = [])
theorem PrintR.uniq {x : Ex} {S R : List UInt8} (h : PrintR x S) (g : PrintR x R) : S = R := by
  rcases h with ⟨h1, h2⟩ | ⟨h1, h2⟩ <;> rcases g with ⟨g1, g2⟩ | ⟨g1, g2⟩
  · rw [h2, g2]
  · exact absurd h1 g1
  · exact absurd g1 h1
  · rw [h2, g2]
attribute [irreducible] checkN
end Go.Dam.Q
namespace Go.Proofs.YtlojecajonhmhaaGreatDoor
open Go Go.RowKit Go.Dam Go.Dam.Q
set_option linter.unusedVariables false
theorem refText_any : ∀ (f : Nat) (x : Ex) (v : Value) (w : World) (B : Nat), B ≤ w.heap.size → IsEx w B f v x → faultN f x = 0 → 48 * sizeN f x ≤ 140737488355328 →
    Calls Tryz.prog 20 #[v] w fun e w' => e = .returned (.string ⟨(textN f x).toArray⟩) ∧ Below w.heap.size w w'
  | 0, x, v, w, B, hB, h, hf, _ => by rw [faultN_0] at hf; omega
  | f + 1, .mk k x0 y0 x1 y1 ww ps, v, w, B, hB, h, hf, hsz => by
    have IH := Lib.hid (refText_any f)
    obtain ⟨A, c, rfl, hn, hnc, hc, hp⟩ := h.open_
    have HOk := headOk (fine_head hf)
    have HPf := Lib.hid fun i hi => fine_part (i := i) hf hi
    have HPs := Lib.hid fun i hi => (size_part (f := f) (k := k) (x0 := x0) (y0 := y0) (x1 := x1) (y1 := y1) (w := ww) (ps := ps) (i := i) hi)
    have hmany := size_many (f := f) (k := k) (x0 := x0) (y0 := y0) (x1 := x1) (y1 := y1) (w := ww) (ps := ps)
    have HTl := Lib.hid (text_len _ _ hf)
    have HP := Lib.hid hp
    have a := HOk.k1
    have b := HOk.k5
    rcases (show k = 1 ∨ k = 2 ∨ k = 3 ∨ k = 4 ∨ k = 5 by omega) with e | e | e | e | e
    · obtain rfl := e
      exact refText_k1 x0 y0 x1 y1 ww A _ c w HOk.c0 HOk.c1 HOk.c2 HOk.c3 _ textN_in
    · obtain rfl := e
      exact refText_k2 x0 y0 x1 y1 ww A _ c w HOk.c4 _ textN_heavy
    · obtain rfl := e
      exact refText_k3 f ps x0 y0 x1 y1 ww w B A _ c _ hB (Lib.hid rfl) (HOk.two (.inl rfl)) hsz hmany hnc hc IH HP HPf HPs _ (Lib.hid (by rw [textN_list (.inl rfl), partsT_all rfl])) HTl
    · obtain rfl := e
      exact refText_k4 f ps x0 y0 x1 y1 ww w B A _ c _ hB (Lib.hid rfl) (HOk.two (.inr rfl)) hsz hmany hnc hc IH HP HPf HPs _ (Lib.hid (by rw [textN_list (.inr rfl), partsT_all rfl])) HTl
    · obtain rfl := e
      exact refText_k5 f ps x0 y0 x1 y1 ww w B A _ c _ hB (Lib.hid rfl) (Lib.hid (HOk.one rfl)) hsz hmany hnc hc IH HP HPf HPs _ (Lib.hid (by rw [textN_not5, partsT_all rfl])) HTl
theorem exV_of {w : World} {B : Nat} {f : Nat} {v : Value} {x : Ex} (h : IsEx w B f v x) : ∃ k x0 y0 x1 y1 ww A n c, v = exV k x0 y0 x1 y1 ww A n c := by
  obtain ⟨k, a, b, c', d, e, ps⟩ := x
  obtain ⟨A, c, h1, _⟩ := h.val
  exact ⟨_, _, _, _, _, _, _, _, _, h1⟩
section
variable (x : Ex) (v : Value) (w : World) (B : Nat)
set_option maxRecDepth 100000 in
set_option maxHeartbeats 4000000 in
theorem queryCheck_any (hB : B ≤ w.heap.size) (h : IsEx w B 8 v x) (hsz : 48 * sizeN 8 x ≤ 140737488355328) (hT : Tab w) :
    Calls Tryz.prog 7 #[v] w fun e w' => e = .returned (.int .i64 (checkN x)) ∧ Below w.heap.size w w' := by
  have HF := Lib.hid fun W (hb : Below w.heap.size w W) => queryFault_any 8 x v W B 0 (by omega) (by omega) (Nat.le_trans hB hb.size) (h.below (hb.mono hB))
  have HT := Lib.hid fun W (hb : Below w.heap.size w W) (hf : faultN 8 x = 0) => queryText_any 8 x v W B (Nat.le_trans hB hb.size) (h.below (hb.mono hB)) hf hsz (hT.below hb)
  obtain ⟨k, x0, y0, x1, y1, ww, A, n, c, rfl⟩ := exV_of h
  have HCb := Lib.hid (check_bad (x := x))
  have HCl := Lib.hid (check_long (x := x))
  have HCf := Lib.hid (check_fine (x := x))
  generalize checkN x = C at *
  generalize faultN 8 x = F at *
  generalize textN 8 x = T at *
  clear h hsz hT
  unfold exV at *
  have HK := Lib.hid (Blk.new w 26 #[.int .i64 k, .int .i64 x0, .int .i64 y0, .int .i64 x1, .int .i64 y1, .int .i64 ww, .slice A n c])
  have HB0 := Lib.hid ((Below.refl w.heap.size w).alloc (Nat.le_refl _) (.cells #[.int .i64 k, .int .i64 x0, .int .i64 y0, .int .i64 x1, .int .i64 y1, .int .i64 ww, .slice A n c] 26))
  by_cases hF : F = 0
  · subst hF
    have HT2 := Lib.hid fun W hb => HT.out W hb rfl
    clear HT
    by_cases hl : 400 < T.length
    · have t1 : decide ((400 : Int) < (T.length : Int)) = true := decide_eq_true (by omega)
      have HC1 := Lib.hid (HCl.out rfl hl)
      go_enter Tryz.func7, Tryz.ntmps7
      go_wp2_with (first
        | (go_at_call 13; refine (HF.out _ HB0.out).mono ?_; rintro e w1 ⟨rfl, hb1⟩; have HB1 := Lib.hid (HB0.out.trans (hb1.mono (by simp))); have HK1 := Lib.hid (HK.out.below hb1 (by simp)); have c0 := (HK1.out.cell 0).trans rfl; have c1 := (HK1.out.cell 1).trans rfl; have c2 := (HK1.out.cell 2).trans rfl; have c3 := (HK1.out.cell 3).trans rfl; have c4 := (HK1.out.cell 4).trans rfl; have c5 := (HK1.out.cell 5).trans rfl; have c6 := (HK1.out.cell 6).trans rfl; clear hb1)
        | (go_at_call 14; refine (HT2.out _ HB1.out).mono ?_; rintro e w2 ⟨rfl, hb2⟩))
      go_ret
      exact ⟨by rw [HC1.out]; rfl, HB1.out.trans (hb2.mono HB1.out.size)⟩
    · have t1 : decide ((400 : Int) < (T.length : Int)) = false := decide_eq_false (by omega)
      have HC1 := Lib.hid (HCf.out rfl hl)
      go_enter Tryz.func7, Tryz.ntmps7
      go_wp2_with (first
        | (go_at_call 13; refine (HF.out _ HB0.out).mono ?_; rintro e w1 ⟨rfl, hb1⟩; have HB1 := Lib.hid (HB0.out.trans (hb1.mono (by simp))); have HK1 := Lib.hid (HK.out.below hb1 (by simp)); have c0 := (HK1.out.cell 0).trans rfl; have c1 := (HK1.out.cell 1).trans rfl; have c2 := (HK1.out.cell 2).trans rfl; have c3 := (HK1.out.cell 3).trans rfl; have c4 := (HK1.out.cell 4).trans rfl; have c5 := (HK1.out.cell 5).trans rfl; have c6 := (HK1.out.cell 6).trans rfl; clear hb1)
        | (go_at_call 14; refine (HT2.out _ HB1.out).mono ?_; rintro e w2 ⟨rfl, hb2⟩))
      go_ret
      exact ⟨by rw [HC1.out]; rfl, HB1.out.trans (hb2.mono HB1.out.size)⟩
  · have t0 : (F != 0) = true := bne_iff_ne.2 hF
    have HC1 := Lib.hid (HCb.out hF)
    go_enter Tryz.func7, Tryz.ntmps7
    go_wp2_with (go_at_call 13; refine (HF.out _ HB0.out).mono ?_; rintro e w1 ⟨rfl, hb1⟩)
    go_ret
    exact ⟨by rw [HC1.out]; rfl, HB0.out.trans (hb1.mono (by simp))⟩
set_option maxRecDepth 100000 in
set_option maxHeartbeats 4000000 in
theorem refCheck_any (hB : B ≤ w.heap.size) (h : IsEx w B 8 v x) (hsz : 48 * sizeN 8 x ≤ 140737488355328) :
    Calls Tryz.prog 10 #[v] w fun e w' => e = .returned (.int .i64 (checkN x)) ∧ Below w.heap.size w w' := by
  have HF := Lib.hid fun W (hb : Below w.heap.size w W) => refFault_any 8 x v W B 0 (by omega) (by omega) (Nat.le_trans hB hb.size) (h.below (hb.mono hB))
  have HT := Lib.hid fun W (hb : Below w.heap.size w W) (hf : faultN 8 x = 0) => refText_any 8 x v W B (Nat.le_trans hB hb.size) (h.below (hb.mono hB)) hf hsz
  obtain ⟨k, x0, y0, x1, y1, ww, A, n, c, rfl⟩ := exV_of h
  have HCb := Lib.hid (check_bad (x := x))
  have HCl := Lib.hid (check_long (x := x))
  have HCf := Lib.hid (check_fine (x := x))
  generalize checkN x = C at *
  generalize faultN 8 x = F at *
  generalize textN 8 x = T at *
  clear h hsz
  unfold exV at *
  have HK := Lib.hid (Blk.new w 26 #[.int .i64 k, .int .i64 x0, .int .i64 y0, .int .i64 x1, .int .i64 y1, .int .i64 ww, .slice A n c])
  have HB0 := Lib.hid ((Below.refl w.heap.size w).alloc (Nat.le_refl _) (.cells #[.int .i64 k, .int .i64 x0, .int .i64 y0, .int .i64 x1, .int .i64 y1, .int .i64 ww, .slice A n c] 26))
  by_cases hF : F = 0
  · subst hF
    have HT2 := Lib.hid fun W hb => HT.out W hb rfl
    clear HT
    by_cases hl : 400 < T.length
    · have t1 : decide ((400 : Int) < (T.length : Int)) = true := decide_eq_true (by omega)
      have HC1 := Lib.hid (HCl.out rfl hl)
      go_enter Tryz.func10, Tryz.ntmps10
      go_wp2_with (first
        | (go_at_call 19; refine (HF.out _ HB0.out).mono ?_; rintro e w1 ⟨rfl, hb1⟩; have HB1 := Lib.hid (HB0.out.trans (hb1.mono (by simp))); have HK1 := Lib.hid (HK.out.below hb1 (by simp)); have c0 := (HK1.out.cell 0).trans rfl; have c1 := (HK1.out.cell 1).trans rfl; have c2 := (HK1.out.cell 2).trans rfl; have c3 := (HK1.out.cell 3).trans rfl; have c4 := (HK1.out.cell 4).trans rfl; have c5 := (HK1.out.cell 5).trans rfl; have c6 := (HK1.out.cell 6).trans rfl; clear hb1)
        | (go_at_call 20; refine (HT2.out _ HB1.out).mono ?_; rintro e w2 ⟨rfl, hb2⟩))
      go_ret
      exact ⟨by rw [HC1.out]; rfl, HB1.out.trans (hb2.mono HB1.out.size)⟩
    · have t1 : decide ((400 : Int) < (T.length : Int)) = false := decide_eq_false (by omega)
      have HC1 := Lib.hid (HCf.out rfl hl)
      go_enter Tryz.func10, Tryz.ntmps10
      go_wp2_with (first
        | (go_at_call 19; refine (HF.out _ HB0.out).mono ?_; rintro e w1 ⟨rfl, hb1⟩; have HB1 := Lib.hid (HB0.out.trans (hb1.mono (by simp))); have HK1 := Lib.hid (HK.out.below hb1 (by simp)); have c0 := (HK1.out.cell 0).trans rfl; have c1 := (HK1.out.cell 1).trans rfl; have c2 := (HK1.out.cell 2).trans rfl; have c3 := (HK1.out.cell 3).trans rfl; have c4 := (HK1.out.cell 4).trans rfl; have c5 := (HK1.out.cell 5).trans rfl; have c6 := (HK1.out.cell 6).trans rfl; clear hb1)
        | (go_at_call 20; refine (HT2.out _ HB1.out).mono ?_; rintro e w2 ⟨rfl, hb2⟩))
      go_ret
      exact ⟨by rw [HC1.out]; rfl, HB1.out.trans (hb2.mono HB1.out.size)⟩
  · have t0 : (F != 0) = true := bne_iff_ne.2 hF
    have HC1 := Lib.hid (HCb.out hF)
    go_enter Tryz.func10, Tryz.ntmps10
    go_wp2_with (go_at_call 19; refine (HF.out _ HB0.out).mono ?_; rintro e w1 ⟨rfl, hb1⟩)
    go_ret
    exact ⟨by rw [HC1.out]; rfl, HB0.out.trans (hb1.mono (by simp))⟩
end
end Go.Proofs.YtlojecajonhmhaaGreatDoor

/-
  Nothing below some block has turned, but for one block. Conditions: none; nothing here names the program.
-/
namespace Go.Dam
open Go Go.RowKit
set_option linter.unusedVariables false
/-- Nothing below n₀ has turned, but for the block e. -/
structure BelowBut (n₀ e : Nat) (W W' : World) : Prop where
  os : W'.os = W.os
  tape : W'.tape = W.tape
  output : W'.output = W.output
  size : W.heap.size ≤ W'.heap.size
  block : ∀ i, i < n₀ → i ≠ e → W'.heap[i]? = W.heap[i]?
theorem BelowBut.refl (n₀ e : Nat) (W : World) : BelowBut n₀ e W W := ⟨rfl, rfl, rfl, Nat.le_refl _, fun _ _ _ => rfl⟩
theorem BelowBut.trans {n₀ e : Nat} {A B C : World} (h : BelowBut n₀ e A B) (k : BelowBut n₀ e B C) : BelowBut n₀ e A C :=
  ⟨k.os.trans h.os, k.tape.trans h.tape, k.output.trans h.output, Nat.le_trans h.size k.size, fun i hi he => (k.block i hi he).trans (h.block i hi he)⟩
theorem BelowBut.of_below {n₀ e : Nat} {A B : World} (h : Below n₀ A B) : BelowBut n₀ e A B := ⟨h.os, h.tape, h.output, h.size, fun i hi _ => h.block i hi⟩
theorem BelowBut.below {n₀ e : Nat} {A B : World} (h : BelowBut n₀ e A B) {m : Nat} (hm : m ≤ n₀) (he : m ≤ e) : Below m A B := ⟨h.os, h.tape, h.output, h.size, fun i hi => h.block i (by omega) (by omega)⟩
theorem BelowBut.cell {n₀ e : Nat} {A B : World} (h : BelowBut n₀ e A B) {p : Addr} (hp : p.block < n₀) (he : p.block ≠ e) : B.cell? p = A.cell? p := World.cell?_of_block (w := A) (h.block p.block hp he)
theorem BelowBut.setCell {n₀ e : Nat} {A B : World} (h : BelowBut n₀ e A B) (u : Value) (o : Nat) : BelowBut n₀ e A (B.setCell ⟨e, o, none⟩ u) :=
  h.trans ⟨rfl, rfl, rfl, by simp [World.setCell], fun i _ he => Below.heap_setCell _ _ _ _ he⟩
theorem BelowBut.alloc {n₀ e : Nat} {A B : World} (h : BelowBut n₀ e A B) (hz : n₀ ≤ B.heap.size) (o : Obj) : BelowBut n₀ e A (B.alloc o) := h.trans (.of_below ((Below.refl _ _).alloc hz o))
end Go.Dam
