/-
  Contract of query.meant: which points an expression means. Conditions: the expression can be read, and is fine; the points can be read as data, and are points.
-/
import Derived.Test.YtlojecajonhmhaaGreatDoorMQueryEvals38
import Derived.Test.YtlojecajonhmhaaGreatDoorMQueryEvals37
import Derived.Test.YtlojecajonhmhaaGreatDoorMQueryEvals47
import Derived.Test.YtlojecajonhmhaaGreatDoorMQueryEvals05
set_option linter.unusedVariables false
set_option linter.unusedSimpArgs false
namespace Go.Dam.Q
open Go Go.RowKit Go.Dam
set_option linter.unusedVariables false
/-- Block g is just the bools l, of element type t. -/
def BBlk (t : TypeId) (w : World) (g : Nat) (l : List Bool) : Prop := Blk w g t (l.map Value.bool).toArray
section
variable {t : TypeId} {w w' : World} {g : Nat} {l : List Bool}
theorem BBlk.cell (h : BBlk t w g l) {i : Nat} (hi : i < l.length) : w.cell? ⟨g, i, none⟩ = some (.bool (l.getD i false)) := by
  rw [Blk.cell h]; simp [hi]
theorem BBlk.frozen (h : BBlk t w g l) (i : Nat) : w.frozen? ⟨g, i, none⟩ = false := Blk.frozen h i
theorem BBlk.lt (h : BBlk t w g l) : g < w.heap.size := Blk.lt h
theorem BBlk.set (h : BBlk t w g l) (i : Nat) (x : Bool) : BBlk t (w.setCell ⟨g, i, none⟩ (.bool x)) g (l.set i x) := by
  have := Blk.set_ h i (.bool x)
  unfold BBlk
  rw [List.map_set]
  simpa using this
theorem BBlk.far (h : BBlk t w g l) {p : Addr} (hp : g ≠ p.block) (u : Value) : BBlk t (w.setCell p u) g l := Blk.far h hp u
theorem BBlk.alloc (h : BBlk t w g l) (o : Obj) : BBlk t (w.alloc o) g l := Blk.alloc h o
theorem BBlk.below {B : Nat} (h : BBlk t w g l) (hb : Below B w w') (hg : g < B) : BBlk t w' g l := Blk.below h hb hg
theorem BBlk.zeros (w : World) (n : Nat) : BBlk t (w.alloc (.cells (Array.replicate n (Value.bool false)) t)) w.heap.size (List.replicate n false) := by
  unfold BBlk; rw [List.map_replicate, List.toArray_replicate]; exact Blk.new w t _
end
/-- n bools, the first i of them f's, the others g's. -/
def RowB (n i : Nat) (f g : Nat → Bool) (l : List Bool) : Prop := l.length = n ∧ (∀ j, j < n → l.getD j false = if j < i then f j else g j)
theorem RowB.step {n i : Nat} {f g : Nat → Bool} {l : List Bool} (h : RowB n i f g l) (hi : i < n) {b : Bool} (hb : b = f i) : RowB n (i + 1) f g (l.set i b) := by
  refine ⟨by rw [List.length_set]; exact h.1, fun j hj => ?_⟩
  by_cases e : j = i
  · subst e
    rw [if_pos (by omega), List.getD_eq_getElem?_getD, List.getElem?_set_self (by rw [h.1]; exact hj)]; exact hb
  · rw [List.getD_eq_getElem?_getD, List.getElem?_set_ne (fun h => e h.symm), ← List.getD_eq_getElem?_getD, h.2 j hj]
    by_cases h1 : j < i
    · rw [if_pos h1, if_pos (by omega)]
    · rw [if_neg h1, if_neg (by omega)]
theorem RowB.at_ {n i : Nat} {f g : Nat → Bool} {l : List Bool} (h : RowB n i f g l) {j : Nat} (hj : j < n) (hji : i ≤ j) : l.getD j false = g j := by rw [h.2 j hj, if_neg (by omega)]
theorem RowB.zero {n : Nat} (f : Nat → Bool) : RowB n 0 f (fun _ => false) (List.replicate n false) := ⟨by simp, fun j hj => by rw [if_neg (by omega)]; simp [hj]⟩
theorem RowB.full {n : Nat} {f g : Nat → Bool} {l : List Bool} (h : RowB n n f g l) : l.length = n ∧ ∀ j, j < n → l.getD j false = f j := ⟨h.1, fun j hj => by rw [h.2 j hj, if_pos hj]⟩
theorem RowB.again {n : Nat} {f : Nat → Bool} {l : List Bool} (h : l.length = n ∧ ∀ j, j < n → l.getD j false = f j) (f' : Nat → Bool) : RowB n 0 f' f l := ⟨h.1, fun j hj => by rw [if_neg (by omega)]; exact h.2 j hj⟩
/-- The row of what is meant. -/
def RowM (l : List Int) (n f : Nat) (x : Ex) (bs : List Bool) : Prop := bs.length = n ∧ ∀ j, j < n → bs.getD j false = meansAt l f x j
/-- The row with the places of a list set. -/
def RowS (n : Nat) (r : List Nat) (k : Nat) (bs : List Bool) : Prop := bs.length = n ∧ ∀ j, j < n → bs.getD j false = (r.take k).contains j
theorem RowS.zero (n : Nat) (r : List Nat) : RowS n r 0 (List.replicate n false) := ⟨by simp, fun j hj => by simp [hj]⟩
theorem RowS.step {n : Nat} {r : List Nat} {k : Nat} {bs : List Bool} (h : RowS n r k bs) (hk : k < r.length) (hr : r.getD k 0 < n) : RowS n r (k + 1) (bs.set (r.getD k 0) true) := by
  refine ⟨by rw [List.length_set]; exact h.1, fun j hj => ?_⟩
  have e2 : r.take (k + 1) = r.take k ++ [r[k]] := by rw [List.take_add_one, List.getElem?_eq_getElem hk]; rfl
  have e0 : r.getD k 0 = r[k] := by rw [List.getD_eq_getElem?_getD, List.getElem?_eq_getElem hk]; rfl
  rw [e0] at hr ⊢
  rw [e2, List.contains_append]
  by_cases e : j = r[k]
  · subst e
    rw [List.getD_eq_getElem?_getD, List.getElem?_set_self (by rw [h.1]; exact hj)]
    simp
  · rw [List.getD_eq_getElem?_getD, List.getElem?_set_ne (fun h => e h.symm), ← List.getD_eq_getElem?_getD, h.2 j hj]
    simp [e]
theorem RowS.full {n : Nat} {l : List Int} {rn : List Nat} {x0 y0 x1 y1 w : Int} {f : Nat} {ps : List Ex} {bs : List Bool} (hp : rn.Perm (List.range n)) (h : RowS n (rn.filter (inP l x0 y0 x1 y1)) (rn.filter (inP l x0 y0 x1 y1)).length bs) : RowM l n (f + 1) (.mk 1 x0 y0 x1 y1 w ps) bs := by
  refine ⟨h.1, fun j hj => ?_⟩
  rw [h.2 j hj, List.take_length]
  have e : meansAt l (f + 1) (.mk 1 x0 y0 x1 y1 w ps) j = inP l x0 y0 x1 y1 j := by
    with_unfolding_all (show meansN (f + 1) (.mk 1 x0 y0 x1 y1 w ps) _ _ _ = inR _ _ _ _ _ _)
    rw [means_in]
  rw [e, Bool.eq_iff_iff, List.contains_iff_mem, List.mem_filter]
  constructor
  · exact fun h => h.2
  · exact fun h => ⟨hp.mem_iff.2 (List.mem_range.2 hj), h⟩
end Go.Dam.Q
namespace Go.Proofs.YtlojecajonhmhaaGreatDoor
open Go Go.RowKit Go.Dam Go.Dam.Q
set_option linter.unusedVariables false
theorem el_boolM : El Tryz.prog 36 4 (.bool false) 1 1 := ⟨Tryz.underlying36, by kernel_rfl, rfl, by decide⟩
/-- What meant gives: a row of its own. -/
def GivesM (l : List Int) (n f : Nat) (x : Ex) (w : World) (e : Ending) (w' : World) : Prop := (∃ g bs, w.heap.size ≤ g ∧ e = .returned (.slice (some ⟨g, 0, none⟩) n n) ∧ RowM l n f x bs ∧ BBlk 4 w' g bs) ∧ Below w.heap.size w w'
set_option maxRecDepth 100000 in
set_option maxHeartbeats 8000000 in
theorem meant_k1 (f : Nat) (ps : List Ex) (x0 y0 x1 y1 ww : Int) (EA : Option Addr) (en ec : Nat) (v : Value) (n : Nat) (l : List Int) (w : World) (B : Nat) (hB : B ≤ w.heap.size) (h : IsFlat 3 w B v n l) (h0 : ptCode n l = 0) :
    Calls Tryz.prog 9 #[exV 1 x0 y0 x1 y1 ww EA en ec, v] w (GivesM l n (f + 1) (.mk 1 x0 y0 x1 y1 ww ps) w) := by
  have hn1 := (ptCode_ok h0).1
  have hmk := fun w' => run_make1 el_boolM rfl (n : Int) n rfl (by omega) (by omega) w'
  have HBx : Hid (Below w.heap.size w ((w.alloc (.cells #[.int .i64 1, .int .i64 x0, .int .i64 y0, .int .i64 x1, .int .i64 y1, .int .i64 ww, .slice EA en ec] 26)).alloc (.cells (Array.replicate n (Value.bool false)) 4))) := Lib.hid (((Below.refl _ _).alloc (Nat.le_refl _) _).alloc (by simp) _)
  have HK : Hid (Blk ((w.alloc (.cells #[.int .i64 1, .int .i64 x0, .int .i64 y0, .int .i64 x1, .int .i64 y1, .int .i64 ww, .slice EA en ec] 26)).alloc (.cells (Array.replicate n (Value.bool false)) 4)) w.heap.size 26 #[.int .i64 1, .int .i64 x0, .int .i64 y0, .int .i64 x1, .int .i64 y1, .int .i64 ww, .slice EA en ec]) := Lib.hid ((Blk.new w _ _).alloc _)
  have HZ : Hid (BBlk 4 ((w.alloc (.cells #[.int .i64 1, .int .i64 x0, .int .i64 y0, .int .i64 x1, .int .i64 y1, .int .i64 ww, .slice EA en ec] 26)).alloc (.cells (Array.replicate n (Value.bool false)) 4)) (w.heap.size + 1) (List.replicate n false)) := Lib.hid (by
    have := BBlk.zeros (t := 4) (w.alloc (.cells #[.int .i64 1, .int .i64 x0, .int .i64 y0, .int .i64 x1, .int .i64 y1, .int .i64 ww, .slice EA en ec] 26)) n
    rwa [World.size_alloc] at this)
  have HC := Lib.hid fun W (hb : Below w.heap.size w W) => gridReport_any x0 y0 x1 y1 v n l W B (Nat.le_trans hB hb.size) (h.below (hb.mono hB))
  rw [h0] at HC
  obtain ⟨A, c, rfl, hc, hm, hn, hl, hr, hw⟩ := h
  clear hr hl hw hc hm hn
  unfold exV
  go_enter Tryz.func9, Tryz.ntmps9
  go_upto_region 16 with fail
  have k1 := (HK.out.cell 1).trans rfl
  have k2 := (HK.out.cell 2).trans rfl
  have k3 := (HK.out.cell 3).trans rfl
  have k4 := (HK.out.cell 4).trans rfl
  generalize ((w.alloc (.cells #[.int .i64 1, .int .i64 x0, .int .i64 y0, .int .i64 x1, .int .i64 y1, .int .i64 ww, .slice EA en ec] 26)).alloc (.cells (Array.replicate n (Value.bool false)) 4)) = Wb at *
  clear hmk
  go_wp2_with (go_at_call 18; refine (HC.out _ HBx.out).mono ?_; rintro e w3 ⟨⟨u, r, rfl, hrn, _, hi⟩, hb3⟩; obtain ⟨rn, hord, rfl⟩ := hrn rfl; have HO := Lib.hid hord; have HI := Lib.hid hi; have HB3 := Lib.hid hb3; obtain ⟨A1, c1, rfl, _⟩ := hi; clear hrn hord hb3)
  have HQ : Hid (∃ q, natL (rn.filter (inP l x0 y0 x1 y1)) = natL q ∧ (∀ k, k < q.length → q.getD k 0 < n) ∧ ∀ bs, RowS n q q.length bs → RowM l n (f + 1) (.mk 1 x0 y0 x1 y1 ww ps) bs) := Lib.hid ⟨_, rfl, fun k hk => by
    have hm := List.getElem_mem hk
    rw [List.getD_eq_getElem?_getD, List.getElem?_eq_getElem hk]
    exact List.mem_range.1 (HO.out.1.mem_iff.1 (List.mem_filter.1 hm).1), fun bs hb => RowS.full HO.out.1 hb⟩
  obtain ⟨q, hq1, hq2, hq3⟩ := HQ.out
  rw [hq1] at HI ⊢
  rw [natL_len] at HI ⊢
  have HQ2 := Lib.hid hq2
  have HQ3 := Lib.hid hq3
  have hzb := HBx.out.size
  have hzl := HZ.out.lt
  have hz3 := HB3.out.size
  have HZ3 := Lib.hid (HZ.out.below HB3.out hzl)
  obtain ⟨A1', c1', e1, _, hcm, hq7, hrd, _⟩ := HI.out
  have HIc : Hid (0 < q.length → ∃ b o, A1 = some ⟨b, o, none⟩ ∧ b < w3.heap.size ∧ b ≠ w.heap.size + 1 ∧ ∀ j, j < q.length → w3.cell? ⟨b, o + j, none⟩ = some (.int .i64 ((q.getD j 0 : Nat) : Int))) := Lib.hid fun h0 => by
    obtain ⟨rfl, rfl⟩ : A1 = A1' ∧ c1 = c1' := by injection e1 with a _ c; exact ⟨a, c⟩
    obtain ⟨b, o, rfl, hb, hc⟩ := flat_cells (m := 1) hrd (by omega) (by rw [natL_len]; exact h0) (by omega)
    rw [natL_len] at hc
    refine ⟨b, o, rfl, hb, fun e => ?_, fun j hj => by rw [hc j (by omega), natL_at]⟩
    have c0 := hc 0 (by omega)
    rw [e, Blk.cell HZ3.out] at c0
    rw [List.getElem?_toArray, List.getElem?_map] at c0
    obtain ⟨x, _, hx⟩ := Option.map_eq_some_iff.1 c0
    cases hx
  rw [natL_len] at hq7
  clear hq1 hq2 hq3 HQ HI HO e1 hcm hrd k1 k2 k3 k4 HC HK
  go_loopw [82] (fun kv wr => ∃ (k : Nat) (bs : List Bool), k ≤ q.length ∧ kv = .int .i64 k ∧ Hid (RowS n q k bs) ∧ Hid (BBlk 4 wr (w.heap.size + 1) bs) ∧ Hid (BelowBut w3.heap.size (w.heap.size + 1) w3 wr)) (fun kv _ => q.length - (intOf kv).toNat)
  case atStart => exact ⟨0, _, by omega, rfl, Lib.hid (RowS.zero n q), HZ3, Lib.hid (BelowBut.refl _ _ _)⟩
  case round =>
    obtain ⟨wo, rfl⟩ : ∃ wo : World, wo = wr := ⟨_, rfl⟩
    obtain ⟨k, bs, hk, rfl, HS, HBb, HU⟩ := hrel
    by_cases hlt : k < q.length
    · have t1 : decide ((k : Int) < (q.length : Int)) = true := decide_eq_true (by omega)
      obtain ⟨b, o, rfl, hb, hbn, hc⟩ := HIc.out (by omega)
      have c0 := (HU.out.cell (p := ⟨b, o + k, none⟩) hb hbn).trans (hc k hlt)
      have hin := HQ2.out k hlt
      have HSn := Lib.hid (HS.out.step hlt hin)
      obtain ⟨i, hi⟩ : ∃ i, i = q.getD k 0 := ⟨_, rfl⟩
      rw [← hi] at c0 hin HSn
      have u0 := HBb.out.cell (i := i) (by rw [HS.out.1]; exact hin)
      have u1 := HBb.out.frozen i
      have i1 : (i : Int) < (n : Int) := by omega
      have i2 : (k : Int) < (q.length : Int) := by omega
      have w1 : IntKind.i64.wrap ((k : Int) + 1) = (k : Int) + 1 := by rw [IntKind.wrap_i64]; omega
      clear hc hi
      go_wp2_with fail
      go_roundw
      case rel => exact ⟨k + 1, _, by omega, by go_num, HSn, Lib.hid (HBb.out.set i true), Lib.hid (HU.out.setCell _ _)⟩
      case measure => simp [intOf]; omega
    · obtain rfl : k = q.length := by omega
      have t1 : decide ((q.length : Int) < (q.length : Int)) = false := decide_eq_false (by omega)
      go_wp2_with fail
      go_ret
      exact ⟨⟨_, bs, by omega, rfl, HQ3.out bs HS.out, HBb.out⟩, (HBx.out.trans (HB3.out.mono hzb)).trans (HU.out.below (by omega) (by omega))⟩
set_option maxRecDepth 100000 in
set_option maxHeartbeats 8000000 in
theorem meant_k2 (f : Nat) (ps : List Ex) (x0 y0 x1 y1 ww : Int) (EA : Option Addr) (en ec : Nat) (v : Value) (n : Nat) (l : List Int) (w : World) (B : Nat) (hB : B ≤ w.heap.size) (h : IsFlat 3 w B v n l) (h0 : ptCode n l = 0) :
    Calls Tryz.prog 9 #[exV 2 x0 y0 x1 y1 ww EA en ec, v] w (GivesM l n (f + 1) (.mk 2 x0 y0 x1 y1 ww ps) w) := by
  have hn1 := (ptCode_ok h0).1
  have hmk := fun w' => run_make1 el_boolM rfl (n : Int) n rfl (by omega) (by omega) w'
  have HBx : Hid (Below w.heap.size w ((w.alloc (.cells #[.int .i64 2, .int .i64 x0, .int .i64 y0, .int .i64 x1, .int .i64 y1, .int .i64 ww, .slice EA en ec] 26)).alloc (.cells (Array.replicate n (Value.bool false)) 4))) := Lib.hid (((Below.refl _ _).alloc (Nat.le_refl _) _).alloc (by simp) _)
  have HK : Hid (Blk ((w.alloc (.cells #[.int .i64 2, .int .i64 x0, .int .i64 y0, .int .i64 x1, .int .i64 y1, .int .i64 ww, .slice EA en ec] 26)).alloc (.cells (Array.replicate n (Value.bool false)) 4)) w.heap.size 26 #[.int .i64 2, .int .i64 x0, .int .i64 y0, .int .i64 x1, .int .i64 y1, .int .i64 ww, .slice EA en ec]) := Lib.hid ((Blk.new w _ _).alloc _)
  have HZ : Hid (BBlk 4 ((w.alloc (.cells #[.int .i64 2, .int .i64 x0, .int .i64 y0, .int .i64 x1, .int .i64 y1, .int .i64 ww, .slice EA en ec] 26)).alloc (.cells (Array.replicate n (Value.bool false)) 4)) (w.heap.size + 1) (List.replicate n false)) := Lib.hid (by
    have := BBlk.zeros (t := 4) (w.alloc (.cells #[.int .i64 2, .int .i64 x0, .int .i64 y0, .int .i64 x1, .int .i64 y1, .int .i64 ww, .slice EA en ec] 26)) n
    rwa [World.size_alloc] at this)
  obtain ⟨A, c, rfl, hc, hm, hn, hl, hr, hw⟩ := h
  have HR := Lib.hid hr
  clear hr hw hm
  have HFin : Hid (∀ bs, RowB n n (fun j => decide (ww ≤ l.getD (j * 3 + 2) 0)) (fun _ => false) bs → RowM l n (f + 1) (.mk 2 x0 y0 x1 y1 ww ps) bs) := Lib.hid fun bs hb => ⟨hb.1, fun j hj => by
    rw [hb.full.2 j hj]
    with_unfolding_all (show _ = meansN (f + 1) (.mk 2 x0 y0 x1 y1 ww ps) _ _ _)
    rw [means_heavy]⟩
  unfold exV
  go_enter Tryz.func9, Tryz.ntmps9
  go_upto_region 23 with fail
  have hzb := HBx.out.size
  have hzl := HZ.out.lt
  have hkl := HK.out.lt
  generalize ((w.alloc (.cells #[.int .i64 2, .int .i64 x0, .int .i64 y0, .int .i64 x1, .int .i64 y1, .int .i64 ww, .slice EA en ec] 26)).alloc (.cells (Array.replicate n (Value.bool false)) 4)) = Wb at *
  clear hmk h0
  go_wp2_with fail
  go_loopw [94] (fun iv wr => ∃ (i : Nat) (bs : List Bool), i ≤ n ∧ iv = .int .i64 i ∧ Hid (RowB n i (fun j => decide (ww ≤ l.getD (j * 3 + 2) 0)) (fun _ => false) bs) ∧ Hid (BBlk 4 wr (w.heap.size + 1) bs) ∧ Hid (BelowBut Wb.heap.size (w.heap.size + 1) Wb wr)) (fun iv _ => n - (intOf iv).toNat)
  case atStart => exact ⟨0, _, by omega, rfl, Lib.hid (RowB.zero _), HZ, Lib.hid (BelowBut.refl _ _ _)⟩
  case round =>
    obtain ⟨wo, rfl⟩ : ∃ wo : World, wo = wr := ⟨_, rfl⟩
    obtain ⟨i, bs, hi, rfl, HS, HBb, HU⟩ := hrel
    have hzo := HU.out.size
    by_cases hlt : i < n
    · have t1 : decide ((i : Int) < (n : Int)) = true := decide_eq_true (by omega)
      obtain ⟨bk, off, rfl, hbk, hcs⟩ := flat_cells HR.out hl (by omega) (by omega)
      have cell : ∀ q, q < n * 3 → wo.cell? ⟨bk, off + q, none⟩ = some (.int .i64 (l.getD q 0)) := fun q hq => (HU.out.cell (p := ⟨bk, off + q, none⟩) (by show bk < _; omega) (by show bk ≠ _; omega)).trans ((HBx.out.cell (p := ⟨bk, off + q, none⟩) (by show bk < _; omega)).trans (hcs q hq))
      have c0 := cell (i * 3) (by omega)
      have c1 := cell (i * 3 + 1) (by omega)
      have c2 := cell (i * 3 + 2) (by omega)
      rw [← Nat.add_assoc] at c1 c2
      have HSn := Lib.hid (HS.out.step hlt (b := decide (ww ≤ l.getD (i * 3 + 2) 0)) rfl)
      generalize l.getD (i * 3) 0 = px at *
      generalize l.getD (i * 3 + 1) 0 = py at *
      generalize l.getD (i * 3 + 2) 0 = pw at *
      have HKo : Hid (Blk wo w.heap.size 26 #[.int .i64 2, .int .i64 x0, .int .i64 y0, .int .i64 x1, .int .i64 y1, .int .i64 ww, .slice EA en ec]) := Lib.hid ((HU.out.block w.heap.size hkl (by omega)).trans HK.out)
      have s5 := fun o => ((HKo.out.alloc o).cell 5).trans rfl
      have u0 := fun o => (HBb.out.alloc o).cell (i := i) (by rw [HS.out.1]; exact hlt)
      have u1 := fun o => (HBb.out.alloc o).frozen i
      have i1 : (i : Int) < (n : Int) := by omega
      have w1 : IntKind.i64.wrap ((i : Int) + 1) = (i : Int) + 1 := by rw [IntKind.wrap_i64]; omega
      clear cell hcs
      go_wp2_with fail
      go_roundw
      case rel => exact ⟨i + 1, _, by omega, by go_num, HSn, Lib.hid ((HBb.out.alloc _).set i _), Lib.hid ((HU.out.alloc hzo _).setCell _ _)⟩
      case measure => simp [intOf]; omega
    · obtain rfl : i = n := by omega
      have t1 : decide ((i : Int) < (i : Int)) = false := decide_eq_false (by omega)
      go_wp2_with fail
      go_ret
      exact ⟨⟨_, bs, by omega, rfl, HFin.out bs HS.out, HBb.out⟩, HBx.out.trans (HU.out.below (by omega) (by omega))⟩
set_option maxRecDepth 100000 in
set_option maxHeartbeats 8000000 in
theorem meant_k5 (f : Nat) (ps : List Ex) (x0 y0 x1 y1 ww : Int) (b o en ec : Nat) (v : Value) (n : Nat) (l : List Int) (w : World) (B : Nat) (hB : B ≤ w.heap.size) (h : IsFlat 3 w B v n l) (h0 : ptCode n l = 0) (he : 0 < en) (hp1 : Hid (ps.length = 1)) (hbl : b < w.heap.size) (pv : Value) (hat : ExAt w b o pv)
    (HIH : Hid (∀ W, Below w.heap.size w W → Calls Tryz.prog 9 #[pv, v] W (GivesM l n f (ps.getD 0 noEx) W))) :
    Calls Tryz.prog 9 #[exV 5 x0 y0 x1 y1 ww (some ⟨b, o, none⟩) en ec, v] w (GivesM l n (f + 1) (.mk 5 x0 y0 x1 y1 ww ps) w) := by
  have hn1 := (ptCode_ok h0).1
  have hmk := fun w' => run_make1 el_boolM rfl (n : Int) n rfl (by omega) (by omega) w'
  have HBx : Hid (Below w.heap.size w ((w.alloc (.cells #[.int .i64 5, .int .i64 x0, .int .i64 y0, .int .i64 x1, .int .i64 y1, .int .i64 ww, .slice (some ⟨b, o, none⟩) en ec] 26)).alloc (.cells (Array.replicate n (Value.bool false)) 4))) := Lib.hid (((Below.refl _ _).alloc (Nat.le_refl _) _).alloc (by simp) _)
  have HK : Hid (Blk ((w.alloc (.cells #[.int .i64 5, .int .i64 x0, .int .i64 y0, .int .i64 x1, .int .i64 y1, .int .i64 ww, .slice (some ⟨b, o, none⟩) en ec] 26)).alloc (.cells (Array.replicate n (Value.bool false)) 4)) w.heap.size 26 #[.int .i64 5, .int .i64 x0, .int .i64 y0, .int .i64 x1, .int .i64 y1, .int .i64 ww, .slice (some ⟨b, o, none⟩) en ec]) := Lib.hid ((Blk.new w _ _).alloc _)
  have HZ : Hid (BBlk 4 ((w.alloc (.cells #[.int .i64 5, .int .i64 x0, .int .i64 y0, .int .i64 x1, .int .i64 y1, .int .i64 ww, .slice (some ⟨b, o, none⟩) en ec] 26)).alloc (.cells (Array.replicate n (Value.bool false)) 4)) (w.heap.size + 1) (List.replicate n false)) := Lib.hid (by
    have := BBlk.zeros (t := 4) (w.alloc (.cells #[.int .i64 5, .int .i64 x0, .int .i64 y0, .int .i64 x1, .int .i64 y1, .int .i64 ww, .slice (some ⟨b, o, none⟩) en ec] 26)) n
    rwa [World.size_alloc] at this)
  obtain ⟨A, c, rfl, hc, hm, hn, hl, hr, hw⟩ := h
  clear hr hw hm hl
  have HFin : Hid (∀ bs, RowB n n (fun j => !meansAt l f (ps.getD 0 noEx) j) (fun _ => false) bs → RowM l n (f + 1) (.mk 5 x0 y0 x1 y1 ww ps) bs) := Lib.hid fun bs hb => ⟨hb.1, fun j hj => by
    rw [hb.full.2 j hj]
    with_unfolding_all (show (!meansN f (ps.getD 0 noEx) _ _ _) = meansN (f + 1) (.mk 5 x0 y0 x1 y1 ww ps) _ _ _)
    rw [means_not hp1.out]⟩
  unfold exV
  go_enter Tryz.func9, Tryz.ntmps9
  go_upto_region 29 with fail
  have hzb := HBx.out.size
  have hzl := HZ.out.lt
  obtain ⟨qk, qx0, qy0, qx1, qy1, qw, QA, qn, qc, rfl, d0, d1, d2, d3, d4, d5, d6⟩ := hat.below HBx.out hbl
  unfold exV at HIH
  have k6 := (HK.out.cell 6).trans rfl
  have e1 : (0 : Int) < (en : Int) := by omega
  generalize ((w.alloc (.cells #[.int .i64 5, .int .i64 x0, .int .i64 y0, .int .i64 x1, .int .i64 y1, .int .i64 ww, .slice (some ⟨b, o, none⟩) en ec] 26)).alloc (.cells (Array.replicate n (Value.bool false)) 4)) = Wb at *
  clear hmk h0 hat
  go_wp2_with (go_at_call 9; refine (HIH.out _ HBx.out).mono ?_; rintro e w3 ⟨⟨g2, bs2, hg2, rfl, hrm, hbb⟩, hb3⟩; have HM2 := Lib.hid hrm; have HB2 := Lib.hid hbb; have HB3 := Lib.hid hb3; clear hrm hbb hb3)
  have hz3 := HB3.out.size
  have HZ3 := Lib.hid (HZ.out.below HB3.out hzl)
  clear d0 d1 d2 d3 d4 d5 d6 k6 HZ HK HIH
  go_loopw [117] (fun iv wr => ∃ (i : Nat) (bs : List Bool), i ≤ n ∧ iv = .int .i64 i ∧ Hid (RowB n i (fun j => !meansAt l f (ps.getD 0 noEx) j) (fun _ => false) bs) ∧ Hid (BBlk 4 wr (w.heap.size + 1) bs) ∧ Hid (BelowBut w3.heap.size (w.heap.size + 1) w3 wr)) (fun iv _ => n - (intOf iv).toNat)
  case atStart => exact ⟨0, _, by omega, rfl, Lib.hid (RowB.zero _), HZ3, Lib.hid (BelowBut.refl _ _ _)⟩
  case round =>
    obtain ⟨wo, rfl⟩ : ∃ wo : World, wo = wr := ⟨_, rfl⟩
    obtain ⟨i, bs, hi, rfl, HS, HBb, HU⟩ := hrel
    by_cases hlt : i < n
    · have t1 : decide ((i : Int) < (n : Int)) = true := decide_eq_true (by omega)
      have hg2l := HB2.out.lt
      have c0 := (HU.out.cell (p := ⟨g2, i, none⟩) hg2l (by show g2 ≠ _; omega)).trans (HB2.out.cell (i := i) (by rw [HM2.out.1]; exact hlt))
      have HSn := Lib.hid (HS.out.step hlt (b := !(bs2.getD i false)) (by rw [HM2.out.2 i hlt]))
      generalize bs2.getD i false = bb at *
      have u0 := HBb.out.cell (i := i) (by rw [HS.out.1]; exact hlt)
      have u1 := HBb.out.frozen i
      have i1 : (i : Int) < (n : Int) := by omega
      have w1 : IntKind.i64.wrap ((i : Int) + 1) = (i : Int) + 1 := by rw [IntKind.wrap_i64]; omega
      go_wp2_with fail
      go_roundw
      case rel => exact ⟨i + 1, _, by omega, by go_num, HSn, Lib.hid (HBb.out.set i _), Lib.hid (HU.out.setCell _ _)⟩
      case measure => simp [intOf]; omega
    · obtain rfl : i = n := by omega
      have t1 : decide ((i : Int) < (i : Int)) = false := decide_eq_false (by omega)
      go_wp2_with fail
      go_ret
      exact ⟨⟨_, bs, by omega, rfl, HFin.out bs HS.out, HBb.out⟩, (HBx.out.trans (HB3.out.mono hzb)).trans (HU.out.below (by omega) (by omega))⟩
end Go.Proofs.YtlojecajonhmhaaGreatDoor
