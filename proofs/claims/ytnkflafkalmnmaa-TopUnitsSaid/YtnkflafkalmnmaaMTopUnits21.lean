/-
  The tree of ranges of package seg, in memory, and contracts of what is done at one node: gather and do. Conditions: none.
-/
import Derived.Test.YtnkflafkalmnmaaMTopUnits00
import Derived.Test.YtnkflafkalmnmaaMTopUnits02
import Derived.Test.YtnkflafkalmnmaaMTopUnits06
import Derived.Deep.QuietTactic
import Derived.BigQuiet
import Derived.BigRegion
import Derived.Deep.CutRange
import Derived.IntWalk
import Derived.StillTailTactics
namespace Go.Dam
open Go Go.RowKit
set_option linter.unusedVariables false
/-- Nothing has turned but blocks from b on, up to e, and what is new. -/
structure Chg (b e : Nat) (w w' : World) : Prop where
  os : w'.os = w.os
  tape : w'.tape = w.tape
  output : w'.output = w.output
  size : w.heap.size ≤ w'.heap.size
  block : ∀ k, k < w.heap.size → ¬ (b ≤ k ∧ k < e) → w'.heap[k]? = w.heap[k]?
theorem Chg.refl (b e : Nat) (w : World) : Chg b e w w := ⟨rfl, rfl, rfl, Nat.le_refl _, fun _ _ _ => rfl⟩
theorem Chg.trans {b e : Nat} {u v w : World} (h : Chg b e u v) (k : Chg b e v w) : Chg b e u w :=
  ⟨k.os.trans h.os, k.tape.trans h.tape, k.output.trans h.output, Nat.le_trans h.size k.size, fun i hi hn => (k.block i (Nat.lt_of_lt_of_le hi h.size) hn).trans (h.block i hi hn)⟩
theorem Chg.mono {b e b' e' : Nat} {w w' : World} (h : Chg b e w w') (hb : b' ≤ b) (he : e ≤ e') : Chg b' e' w w' :=
  ⟨h.os, h.tape, h.output, h.size, fun k hk hn => h.block k hk (fun hc => hn ⟨by omega, by omega⟩)⟩
theorem Chg.of_below {b e : Nat} {w w' : World} (h : Below w.heap.size w w') : Chg b e w w' := ⟨h.os, h.tape, h.output, h.size, fun k hk _ => h.block k hk⟩
theorem Chg.below {b e B : Nat} {w w' : World} (h : Chg b e w w') (hB : B ≤ b) (hw : B ≤ w.heap.size) : Below B w w' := ⟨h.os, h.tape, h.output, h.size, fun k hk => h.block k (by omega) (by omega)⟩
theorem Chg.set_ {b e : Nat} {w0 w : World} (h : Chg b e w0 w) {p : Addr} (hp : (b ≤ p.block ∧ p.block < e) ∨ w0.heap.size ≤ p.block) (u : Value) : Chg b e w0 (w.setCell p u) :=
  ⟨h.os, h.tape, h.output, by simpa [World.setCell] using h.size, fun k hk hn => (Below.heap_setCell w p u k (by rintro rfl; omega)).trans (h.block k hk hn)⟩
theorem Chg.drew {b e : Nat} {w0 w : World} (h : Chg b e w0 w) : Chg b e w0 w.drew := ⟨h.os, h.tape, h.output, h.size, h.block⟩
theorem Chg.drewN {b e : Nat} {w0 w : World} (h : Chg b e w0 w) (n : Nat) : Chg b e w0 (w.drewN n) := ⟨h.os, h.tape, h.output, h.size, h.block⟩
theorem Chg.alloc {b e : Nat} {w0 w : World} (h : Chg b e w0 w) (o : Obj) : Chg b e w0 (w.alloc o) :=
  ⟨h.os, h.tape, h.output, by have := h.size; simp; omega, fun k hk hn => (Below.heap_alloc w o k (Nat.lt_of_lt_of_le hk h.size)).trans (h.block k hk hn)⟩
theorem Blk.chg {b e g : Nat} {w w' : World} {t : TypeId} {cs : Array Value} (h : Blk w g t cs) (hc : Chg b e w w') (hg : ¬ (b ≤ g ∧ g < e)) : Blk w' g t cs := (hc.block g h.lt hg).trans h
/-- A node's cells. -/
def nodeC (ls sm : Int) (st : Bool) (tv ad : Int) (p0 p1 : Option Addr) : Array Value := #[.int .i64 ls, .int .i64 sm, .bool st, .int .i64 tv, .int .i64 ad, .pointer p0, .pointer p1]
section
variable {w : World} {b : Nat} {T : TypeId} {ls sm tv ad : Int} {st : Bool} {p0 p1 : Option Addr}
theorem node_0 (h : Blk w b T (nodeC ls sm st tv ad p0 p1)) : w.cell? ⟨b, 0, none⟩ = some (.int .i64 ls) := (h.cell 0).trans rfl
theorem node_1 (h : Blk w b T (nodeC ls sm st tv ad p0 p1)) : w.cell? ⟨b, 1, none⟩ = some (.int .i64 sm) := (h.cell 1).trans rfl
theorem node_2 (h : Blk w b T (nodeC ls sm st tv ad p0 p1)) : w.cell? ⟨b, 2, none⟩ = some (.bool st) := (h.cell 2).trans rfl
theorem node_3 (h : Blk w b T (nodeC ls sm st tv ad p0 p1)) : w.cell? ⟨b, 3, none⟩ = some (.int .i64 tv) := (h.cell 3).trans rfl
theorem node_4 (h : Blk w b T (nodeC ls sm st tv ad p0 p1)) : w.cell? ⟨b, 4, none⟩ = some (.int .i64 ad) := (h.cell 4).trans rfl
theorem node_5 (h : Blk w b T (nodeC ls sm st tv ad p0 p1)) : w.cell? ⟨b, 5, none⟩ = some (.pointer p0) := (h.cell 5).trans rfl
theorem node_6 (h : Blk w b T (nodeC ls sm st tv ad p0 p1)) : w.cell? ⟨b, 6, none⟩ = some (.pointer p1) := (h.cell 6).trans rfl
end
/-- A tree of the range from lo on, k more, in the blocks from b up to e, whose numbers are f. -/
inductive SegT (T : TypeId) (w : World) (M : Int) : Nat → Nat → Nat → Nat → (Nat → Int) → Prop
  | leaf {b e lo : Nat} {f : Nat → Int} {st : Bool} {tv ad : Int} {p0 p1 : Option Addr} : Blk w b T (nodeC (f lo) (f lo) st tv ad p0 p1) → b < e → e ≤ w.heap.size → (-M ≤ f lo ∧ f lo ≤ M) → SegT T w M 0 b e lo f
  | node {k b e lo bl el br : Nat} {f g : Nat → Int} {st : Bool} {tv ad : Int} : 0 < k → Blk w b T (nodeC (leastF f lo k) (sumF f lo k) st tv ad (some ⟨bl, 0, none⟩) (some ⟨br, 0, none⟩)) → b < bl → el ≤ br → e ≤ w.heap.size →
      SegT T w M (k / 2) bl el lo g → SegT T w M (k - k / 2 - 1) br e (lo + k / 2 + 1) g → (-M ≤ tv ∧ tv ≤ M) → (∀ i, lo ≤ i → i ≤ lo + k → f i = (if st then tv else g i) + ad) → (∀ i, lo ≤ i → i ≤ lo + k → -M ≤ f i ∧ f i ≤ M) → SegT T w M k b e lo f
theorem SegT.bounds {T : TypeId} {w : World} {M : Int} {k b e lo : Nat} {f : Nat → Int} (h : SegT T w M k b e lo f) : b < e ∧ e ≤ w.heap.size ∧ ∀ i, lo ≤ i → i ≤ lo + k → -M ≤ f i ∧ f i ≤ M := by
  induction h with
  | leaf h1 h2 h3 h4 => exact ⟨h2, h3, fun i a b => by rw [show i = _ from Nat.le_antisymm b a]; exact h4⟩
  | node h0 h1 h2 h3 h4 _ _ h5 h6 h7 ih1 ih2 => exact ⟨by have := ih1.1; have := ih2.1; omega, h4, h7⟩
theorem SegT.far {T : TypeId} {w w' : World} {M : Int} {k b e lo b' e' : Nat} {f : Nat → Int} (h : SegT T w M k b e lo f) (hc : Chg b' e' w w') (hd : e ≤ b' ∨ e' ≤ b) : SegT T w' M k b e lo f := by
  induction h with
  | leaf h1 h2 h3 h4 => exact .leaf (h1.chg hc (by omega)) h2 (Nat.le_trans h3 hc.size) h4
  | node h0 h1 h2 h3 h4 hL hR h5 h6 h7 ih1 ih2 =>
    have := hL.bounds.1
    have := hR.bounds.1
    exact .node h0 (h1.chg hc (by omega)) h2 h3 (Nat.le_trans h4 hc.size) (ih1 (by omega)) (ih2 (by omega)) h5 h6 h7
theorem SegT.congr {T : TypeId} {w : World} {M : Int} {k b e lo : Nat} {f f' : Nat → Int} (h : SegT T w M k b e lo f) (hf : ∀ i, lo ≤ i → i ≤ lo + k → f i = f' i) : SegT T w M k b e lo f' := by
  cases h with
  | leaf h1 h2 h3 h4 => rw [hf lo (by omega) (by omega)] at h1 h4; exact .leaf h1 h2 h3 h4
  | node h0 h1 h2 h3 h4 hL hR h5 h6 h7 =>
    rw [leastF_congr k hf, sumF_congr k hf] at h1
    exact .node h0 h1 h2 h3 h4 hL hR h5 (fun i a b => by rw [← hf i a b]; exact h6 i a b) (fun i a b => by rw [← hf i a b]; exact h7 i a b)
theorem SegT.more {T : TypeId} {w : World} {M M' : Int} {k b e lo : Nat} {f : Nat → Int} (h : SegT T w M k b e lo f) (hM : M ≤ M') : SegT T w M' k b e lo f := by
  induction h with
  | leaf h1 h2 h3 h4 => exact .leaf h1 h2 h3 (by omega)
  | node h0 h1 h2 h3 h4 hL hR h5 h6 h7 ih1 ih2 => exact .node h0 h1 h2 h3 h4 ih1 ih2 (by omega) h6 (fun i a b => by have := h7 i a b; omega)
/-- The head of a tree. -/
theorem SegT.head {T : TypeId} {w : World} {M : Int} {k b e lo : Nat} {f : Nat → Int} (h : SegT T w M k b e lo f) : ∃ st tv ad p0 p1, Blk w b T (nodeC (leastF f lo k) (sumF f lo k) st tv ad p0 p1) := by
  cases h with
  | leaf h1 h2 h3 h4 => exact ⟨_, _, _, _, _, by rw [leastF_0, sumF_0]; exact h1⟩
  | node h0 h1 h2 h3 h4 hL hR h5 h6 h7 => exact ⟨_, _, _, _, _, h1⟩
end Go.Dam
namespace Go.Proofs.Ytnkflafkalmnmaa
open Go Go.RowKit Go.Dam
set_option linter.unusedVariables false
set_option maxHeartbeats 4000000 in
theorem gather_any (b bl br : Nat) (ls sm l1 s1 l2 s2 tv ad tv1 ad1 tv2 ad2 : Int) (st st1 st2 : Bool) (q0 q1 r0 r1 : Option Addr) (w : World)
    (h : Blk w b 103 (nodeC ls sm st tv ad (some ⟨bl, 0, none⟩) (some ⟨br, 0, none⟩))) (h1 : Blk w bl 103 (nodeC l1 s1 st1 tv1 ad1 q0 q1)) (h2 : Blk w br 103 (nodeC l2 s2 st2 tv2 ad2 r0 r1))
    (n1 : b ≠ bl) (n2 : b ≠ br) (b1 : -1099511627776 ≤ s1 ∧ s1 ≤ 1099511627776) (b2 : -1099511627776 ≤ s2 ∧ s2 ≤ 1099511627776) :
    Calls Try.prog 68 #[.pointer (some ⟨b, 0, none⟩)] w fun e w' => e = .returned (.tuple #[]) ∧ Blk w' b 103 (nodeC (min l1 l2) (s1 + s2) st tv ad (some ⟨bl, 0, none⟩) (some ⟨br, 0, none⟩)) ∧ Chg b (b + 1) w w' ∧ w'.heap.size = w.heap.size := by
  have HB := Lib.hid h
  unfold nodeC at h h1 h2
  have a5 := (h.cell 5).trans rfl
  have a6 := (h.cell 6).trans rfl
  have a0 := (h.cell 0).trans rfl
  have a1 := (h.cell 1).trans rfl
  have f0 := h.frozen 0
  have f1 := h.frozen 1
  have c0 := (h1.cell 0).trans rfl
  have c1 := (h1.cell 1).trans rfl
  have d0 := (h2.cell 0).trans rfl
  have d1 := (h2.cell 1).trans rfl
  have hw : IntKind.i64.wrap (s1 + s2) = s1 + s2 := IntWalk.i64_in _ (by omega)
  clear h h1 h2
  go_enter Try.func68, Try.ntmps68
  go_wp2_with fail
  go_quiet (fail)
  go_wp2_with fail
  go_region
  all_goals go_wp2_with fail
  all_goals go_end0
  · have hm : min l1 l2 = l2 := by omega
    rw [hm]
    exact ⟨rfl, ((HB.out.drewN _).set_ 0 _).set_ 1 _, (((Chg.refl _ _ _).drewN _).set_ (p := ⟨b, 0, none⟩) (.inl ⟨Nat.le_refl _, Nat.lt_succ_self _⟩) _).set_ (p := ⟨b, 1, none⟩) (.inl ⟨Nat.le_refl _, Nat.lt_succ_self _⟩) _, by simp⟩
  · have hm : min l1 l2 = l1 := by omega
    rw [hm]
    exact ⟨rfl, ((HB.out.drewN _).set_ 0 _).set_ 1 _, (((Chg.refl _ _ _).drewN _).set_ (p := ⟨b, 0, none⟩) (.inl ⟨Nat.le_refl _, Nat.lt_succ_self _⟩) _).set_ (p := ⟨b, 1, none⟩) (.inl ⟨Nat.le_refl _, Nat.lt_succ_self _⟩) _, by simp⟩
/-- The word of an operation. -/
abbrev opV (kind x y c : Int) : Value := .agg #[.int .i64 kind, .int .i64 x, .int .i64 y, .int .i64 c]
set_option maxHeartbeats 4000000 in
theorem doSet_any (b : Nat) (ls sm x y c z tv ad : Int) (st : Bool) (p0 p1 : Option Addr) (w : World) (h : Blk w b 103 (nodeC ls sm st tv ad p0 p1)) (hz : -1099511627776 ≤ c * z ∧ c * z ≤ 1099511627776) :
    Calls Try.prog 69 #[.pointer (some ⟨b, 0, none⟩), .agg #[.int .i64 2, .int .i64 x, .int .i64 y, .int .i64 c], .int .i64 z] w fun e w' => e = .returned (.tuple #[]) ∧ Blk w' b 103 (nodeC c (c * z) true c 0 p0 p1) ∧ Chg b (b + 1) w w' := by
  have HB := Lib.hid (h.alloc (.cells #[.int .i64 2, .int .i64 x, .int .i64 y, .int .i64 c] 67))
  have HO := Lib.hid (Blk.new w 67 #[.int .i64 2, .int .i64 x, .int .i64 y, .int .i64 c])
  have HC := Lib.hid ((Chg.refl b (b + 1) w).alloc (.cells #[.int .i64 2, .int .i64 x, .int .i64 y, .int .i64 c] 67))
  have hlt := h.lt
  have o0 := (HO.out.cell 0).trans rfl
  have o3 := (HO.out.cell 3).trans rfl
  have f0 := HB.out.frozen 0
  have f1 := HB.out.frozen 1
  have a0 := node_0 HB.out
  have a1 := node_1 HB.out
  have hw : IntKind.i64.wrap (c * z) = c * z := IntWalk.i64_in _ (by omega)
  clear h
  go_enter Try.func69, Try.ntmps69
  go_upto_region 2 with fail
  generalize w.alloc (.cells #[.int .i64 2, .int .i64 x, .int .i64 y, .int .i64 c] 67) = W at *
  go_region
  have HB2 : Hid (Blk (((W.setCell ⟨b, 0, none⟩ (.int .i64 c)).setCell ⟨b, 1, none⟩ (.int .i64 (c * z))).drew) b 103 (nodeC c (c * z) st tv ad p0 p1)) := Lib.hid ((HB.out.set_ 0 (.int .i64 c)).set_ 1 (.int .i64 (c * z)))
  have HO2 : Hid (Blk (((W.setCell ⟨b, 0, none⟩ (.int .i64 c)).setCell ⟨b, 1, none⟩ (.int .i64 (c * z))).drew) w.heap.size 67 #[.int .i64 2, .int .i64 x, .int .i64 y, .int .i64 c]) := Lib.hid ((HO.out.far (p := ⟨b, 0, none⟩) (by show w.heap.size ≠ b; omega) _).far (p := ⟨b, 1, none⟩) (by show w.heap.size ≠ b; omega) _)
  have HC2 : Hid (Chg b (b + 1) w (((W.setCell ⟨b, 0, none⟩ (.int .i64 c)).setCell ⟨b, 1, none⟩ (.int .i64 (c * z))).drew)) := Lib.hid ((HC.out.set_ (p := ⟨b, 0, none⟩) (.inl ⟨Nat.le_refl _, Nat.lt_succ_self _⟩) _).set_ (p := ⟨b, 1, none⟩) (.inl ⟨Nat.le_refl _, Nat.lt_succ_self _⟩) _).drew
  clear o0 o3 f0 f1 a0 a1 HB HO HC
  generalize ((W.setCell ⟨b, 0, none⟩ (.int .i64 c)).setCell ⟨b, 1, none⟩ (.int .i64 (c * z))).drew = W2 at *
  have o3 := (HO2.out.cell 3).trans rfl
  have f2 := HB2.out.frozen 2
  have f3 := HB2.out.frozen 3
  have f4 := HB2.out.frozen 4
  have a2 := node_2 HB2.out
  have a3 := node_3 HB2.out
  have a4 := node_4 HB2.out
  go_wp2_with fail
  go_region
  go_wp2_with fail
  exact bodyPost_ret (results_none rfl _ _ _) rfl ⟨rfl, ((HB2.out.set_ 2 _).set_ 3 _).set_ 4 _, (((HC2.out.set_ (p := ⟨b, 2, none⟩) (.inl ⟨Nat.le_refl _, Nat.lt_succ_self _⟩) _).set_ (p := ⟨b, 3, none⟩) (.inl ⟨Nat.le_refl _, Nat.lt_succ_self _⟩) _).set_ (p := ⟨b, 4, none⟩) (.inl ⟨Nat.le_refl _, Nat.lt_succ_self _⟩) _).drew⟩
set_option maxHeartbeats 4000000 in
theorem doAdd_any (b : Nat) (ls sm x y c z tv ad : Int) (st : Bool) (p0 p1 : Option Addr) (w : World) (h : Blk w b 103 (nodeC ls sm st tv ad p0 p1)) (h1 : -1099511627776 ≤ ls + c ∧ ls + c ≤ 1099511627776) (hz : -1099511627776 ≤ c * z ∧ c * z ≤ 1099511627776) (h2 : -1099511627776 ≤ sm + c * z ∧ sm + c * z ≤ 1099511627776) :
    Calls Try.prog 69 #[.pointer (some ⟨b, 0, none⟩), .agg #[.int .i64 1, .int .i64 x, .int .i64 y, .int .i64 c], .int .i64 z] w fun e w' => e = .returned (.tuple #[]) ∧ Blk w' b 103 (nodeC (ls + c) (sm + c * z) st tv (IntKind.i64.wrap (ad + c)) p0 p1) ∧ Chg b (b + 1) w w' := by
  have HB := Lib.hid (h.alloc (.cells #[.int .i64 1, .int .i64 x, .int .i64 y, .int .i64 c] 67))
  have HO := Lib.hid (Blk.new w 67 #[.int .i64 1, .int .i64 x, .int .i64 y, .int .i64 c])
  have HC := Lib.hid ((Chg.refl b (b + 1) w).alloc (.cells #[.int .i64 1, .int .i64 x, .int .i64 y, .int .i64 c] 67))
  have hlt := h.lt
  have o0 := (HO.out.cell 0).trans rfl
  have o3 := (HO.out.cell 3).trans rfl
  have f0 := HB.out.frozen 0
  have a0 := node_0 HB.out
  have hw1 : IntKind.i64.wrap (ls + c) = ls + c := IntWalk.i64_in _ (by omega)
  have hw2 : IntKind.i64.wrap (c * z) = c * z := IntWalk.i64_in _ (by omega)
  have hw3 : IntKind.i64.wrap (sm + c * z) = sm + c * z := IntWalk.i64_in _ (by omega)
  obtain ⟨ad', had⟩ : ∃ a, IntKind.i64.wrap (ad + c) = a := ⟨_, rfl⟩
  rw [had]
  clear h
  go_enter Try.func69, Try.ntmps69
  go_upto_region 4 with fail
  generalize w.alloc (.cells #[.int .i64 1, .int .i64 x, .int .i64 y, .int .i64 c] 67) = W at *
  go_region
  have HB2 : Hid (Blk ((W.setCell ⟨b, 0, none⟩ (.int .i64 (ls + c))).drew) b 103 (nodeC (ls + c) sm st tv ad p0 p1)) := Lib.hid (HB.out.set_ 0 (.int .i64 (ls + c)))
  have HO2 : Hid (Blk ((W.setCell ⟨b, 0, none⟩ (.int .i64 (ls + c))).drew) w.heap.size 67 #[.int .i64 1, .int .i64 x, .int .i64 y, .int .i64 c]) := Lib.hid (HO.out.far (p := ⟨b, 0, none⟩) (by show w.heap.size ≠ b; omega) _)
  have HC2 : Hid (Chg b (b + 1) w ((W.setCell ⟨b, 0, none⟩ (.int .i64 (ls + c))).drew)) := Lib.hid (HC.out.set_ (p := ⟨b, 0, none⟩) (.inl ⟨Nat.le_refl _, Nat.lt_succ_self _⟩) _).drew
  clear o0 o3 f0 a0 HB HO HC
  generalize (W.setCell ⟨b, 0, none⟩ (.int .i64 (ls + c))).drew = W2 at *
  have o3 := (HO2.out.cell 3).trans rfl
  have f1 := HB2.out.frozen 1
  have a1 := node_1 HB2.out
  go_wp2_with fail
  go_region
  have HB3 : Hid (Blk ((W2.setCell ⟨b, 1, none⟩ (.int .i64 (sm + c * z))).drew) b 103 (nodeC (ls + c) (sm + c * z) st tv ad p0 p1)) := Lib.hid (HB2.out.set_ 1 (.int .i64 (sm + c * z)))
  have HO3 : Hid (Blk ((W2.setCell ⟨b, 1, none⟩ (.int .i64 (sm + c * z))).drew) w.heap.size 67 #[.int .i64 1, .int .i64 x, .int .i64 y, .int .i64 c]) := Lib.hid (HO2.out.far (p := ⟨b, 1, none⟩) (by show w.heap.size ≠ b; omega) _)
  have HC3 : Hid (Chg b (b + 1) w ((W2.setCell ⟨b, 1, none⟩ (.int .i64 (sm + c * z))).drew)) := Lib.hid (HC2.out.set_ (p := ⟨b, 1, none⟩) (.inl ⟨Nat.le_refl _, Nat.lt_succ_self _⟩) _).drew
  clear o3 f1 a1 HB2 HO2 HC2
  generalize (W2.setCell ⟨b, 1, none⟩ (.int .i64 (sm + c * z))).drew = W3 at *
  have o3 := (HO3.out.cell 3).trans rfl
  have f4 := HB3.out.frozen 4
  have a4 := node_4 HB3.out
  go_wp2_with fail
  go_region
  go_wp2_with fail
  go_end0
  exact ⟨rfl, HB3.out.set_ 4 _, (HC3.out.set_ (p := ⟨b, 4, none⟩) (.inl ⟨Nat.le_refl _, Nat.lt_succ_self _⟩) _).drew⟩
end Go.Proofs.Ytnkflafkalmnmaa
