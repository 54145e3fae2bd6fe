/-
  Contract of the reference's SegPlayed: number by number. Conditions: the arguments can be read as data.
-/
import Derived.Test.YtaipnjoeejgnnaaMSegPlays14
import Derived.Test.YtaipnjoeejgnnaaMSegPlays00
import Derived.Test.YtaipnjoeejgnnaaMSegPlays05
import Derived.Test.YtaipnjoeejgnnaaMSegPlays15
namespace Go.Dam
open Go Go.RowKit
set_option linter.unusedVariables false
theorem opF_upto {kind lo c : Int} {f : Nat → Int} {i j : Nat} (h : j ≠ i) : opF kind lo (((i + 1 : Nat) : Int) - 1) c f j = opF kind lo ((i : Int) - 1) c f j := by
  unfold opF
  by_cases h1 : lo ≤ (j : Int) ∧ (j : Int) ≤ (i : Int) - 1
  · rw [if_pos h1, if_pos (by omega)]
  · rw [if_neg h1, if_neg (by omega)]
theorem opF_hi (kind : Int) (lo hi : Nat) (c : Int) (f : Nat → Int) (j : Nat) : opF kind lo (((hi + 1 : Nat) : Int) - 1) c f j = opF kind lo hi c f j := by rw [show ((hi + 1 : Nat) : Int) - 1 = (hi : Int) from by omega]
/-- Numbers in a row. -/
def rowG (n : Nat) (g : Nat → Int) : List Int := (List.range n).map g
theorem rowG_len (n : Nat) (g : Nat → Int) : (rowG n g).length = n := by unfold rowG; simp
theorem rowG_at {n i : Nat} (g : Nat → Int) (h : i < n) : (rowG n g).getD i 0 = g i := by unfold rowG; simp [h]
theorem rowG_congr {n : Nat} {f g : Nat → Int} (h : ∀ i, i < n → f i = g i) : rowG n f = rowG n g := List.map_congr_left fun i hi => h i (List.mem_range.1 hi)
theorem rowG_set {n i : Nat} {f g : Nat → Int} {x : Int} (h : i < n) (hx : g i = x) (ho : ∀ j, j < n → j ≠ i → g j = f j) : (rowG n f).set i x = rowG n g := by
  refine List.ext_getElem (by simp [rowG]) fun j h1 h2 => ?_
  have h3 : j < n := by simpa [rowG] using h2
  simp only [rowG, List.getElem_set, List.getElem_map, List.getElem_range]
  split
  · rename_i e; subst e; exact hx.symm
  · rename_i e; exact (ho j h3 (fun e2 => e e2.symm)).symm
theorem rowG_rowT (l o : List Int) (n t : Nat) : rowG n (nowT l o n t) = rowT l o n t := by unfold rowG rowT; rfl
theorem rowG_start (l : List Int) : rowG l.length (fun i => l.getD i 0) = l := by
  refine List.ext_getElem (rowG_len _ _) fun j h1 h2 => ?_
  simp [rowG, h2]
/-- The least so far: nothing was looked at, or q more than one. -/
def LeastTo (f : Nat → Int) (lo i : Nat) (v : Int) : Prop := (i = lo ∧ v = f lo) ∨ ∃ q, i = lo + q + 1 ∧ v = leastF f lo q
/-- The sum so far. -/
def SumTo (f : Nat → Int) (lo i : Nat) (v : Int) : Prop := (i = lo ∧ v = 0) ∨ ∃ q, i = lo + q + 1 ∧ v = sumF f lo q
theorem LeastTo.step {f : Nat → Int} {lo i : Nat} {v v' : Int} (h : LeastTo f lo i v) (hv : v' = min v (f i)) : LeastTo f lo (i + 1) v' := by
  subst hv
  rcases h with ⟨rfl, rfl⟩ | ⟨q, rfl, rfl⟩
  · exact .inr ⟨0, rfl, by rw [leastF_0]; omega⟩
  · exact .inr ⟨q + 1, by omega, by rw [leastF_succ]; rfl⟩
theorem SumTo.step {f : Nat → Int} {lo i : Nat} {v v' : Int} (h : SumTo f lo i v) (hv : v' = v + f i) : SumTo f lo (i + 1) v' := by
  subst hv
  rcases h with ⟨rfl, rfl⟩ | ⟨q, rfl, rfl⟩
  · exact .inr ⟨0, rfl, by rw [sumF_0]; omega⟩
  · exact .inr ⟨q + 1, by omega, by rw [sumF_succ]; rfl⟩
theorem SumTo.bound {f : Nat → Int} {lo i : Nat} {v M : Int} (h : SumTo f lo i v) (hb : ∀ j, lo ≤ j → j < i → -M ≤ f j ∧ f j ≤ M) (hM0 : 0 ≤ M) (hM : M ≤ 1073741824) (hi : i ≤ 300) : -1099511627776 ≤ v ∧ v ≤ 1099511627776 := by
  rcases h with ⟨rfl, rfl⟩ | ⟨q, rfl, rfl⟩
  · omega
  · exact sum_bd (fun j a b => hb j a (by omega)) hM0 hM (by omega)
theorem valT_least {l o : List Int} {n t lo hi : Nat} {v : Int} (hb : badT o n t = 0) (hk : o.getD (t * 4) 0 = 3) (h1 : o.getD (t * 4 + 1) 0 = lo) (h2 : o.getD (t * 4 + 2) 0 = hi) (hle : lo ≤ hi) (h : LeastTo (nowT l o n t) lo (hi + 1) v) : v = valT l o n t := by
  unfold valT
  rw [if_pos hb, if_pos hk, h1, h2, Int.toNat_natCast, Int.toNat_natCast]
  rcases h with ⟨e, _⟩ | ⟨q, e, rfl⟩
  · omega
  · rw [show hi - lo = q from by omega]
theorem valT_sum {l o : List Int} {n t lo hi : Nat} {v : Int} (hb : badT o n t = 0) (hk : o.getD (t * 4) 0 = 4) (h1 : o.getD (t * 4 + 1) 0 = lo) (h2 : o.getD (t * 4 + 2) 0 = hi) (hle : lo ≤ hi) (h : SumTo (nowT l o n t) lo (hi + 1) v) : v = valT l o n t := by
  unfold valT
  rw [if_pos hb, if_neg (by omega), if_pos hk, h1, h2, Int.toNat_natCast, Int.toNat_natCast]
  rcases h with ⟨e, _⟩ | ⟨q, e, rfl⟩
  · omega
  · rw [show hi - lo = q from by omega]
/-- What the reference holds in a round: the operation, the reply, the numbers, the replies. -/
def RSt (TO TR TI : TypeId) (w0 w : World) (ob rb g c9 n t c3 : Nat) (A3 : Option Addr) (ops : Array Value) (code rv : Int) (X R : List Int) : Prop :=
  Blk w ob TO ops ∧ Blk w rb TR #[.int .i64 code, .int .i64 rv] ∧ w.ownsRow w0.heap.size TI 1 (.slice (some ⟨g, 0, none⟩) n c9) n (X.map (Value.int .i64)) ∧ w.ownsRow w0.heap.size TR 2 (.slice A3 t c3) t (R.map (Value.int .i64)) ∧ Below w0.heap.size w0 w ∧
    (g ≠ ob ∧ g ≠ rb ∧ ob ≠ rb ∧ w0.heap.size ≤ rb) ∧ (Value.slice A3 t c3).ownBlock ≠ some rb ∧ (Value.slice A3 t c3).ownBlock ≠ some g
section
variable {TO TR TI : TypeId} {w0 w : World} {ob rb g c9 n t c3 : Nat} {A3 : Option Addr} {ops : Array Value} {code rv : Int} {X R : List Int}
theorem RSt.code_ (h : RSt TO TR TI w0 w ob rb g c9 n t c3 A3 ops code rv X R) (x : Int) : RSt TO TR TI w0 (w.setCell ⟨rb, 0, none⟩ (.int .i64 x)) ob rb g c9 n t c3 A3 ops x rv X R := by
  obtain ⟨h1, h2, h3, h4, h5, h6, h7, h8⟩ := h
  exact ⟨h1.far (p := ⟨rb, 0, none⟩) h6.2.2.1 _, h2.set_ 0 _, own_set_ne h3 (fun e => h6.2.1 (by injection e)) _, own_set_ne h4 h7 _, h5.setCell (p := ⟨rb, 0, none⟩) h6.2.2.2 _, h6, h7, h8⟩
theorem RSt.val_ (h : RSt TO TR TI w0 w ob rb g c9 n t c3 A3 ops code rv X R) (x : Int) : RSt TO TR TI w0 (w.setCell ⟨rb, 1, none⟩ (.int .i64 x)) ob rb g c9 n t c3 A3 ops code x X R := by
  obtain ⟨h1, h2, h3, h4, h5, h6, h7, h8⟩ := h
  exact ⟨h1.far (p := ⟨rb, 1, none⟩) h6.2.2.1 _, h2.set_ 1 _, own_set_ne h3 (fun e => h6.2.1 (by injection e)) _, own_set_ne h4 h7 _, h5.setCell (p := ⟨rb, 1, none⟩) h6.2.2.2 _, h6, h7, h8⟩
theorem RSt.drew (h : RSt TO TR TI w0 w ob rb g c9 n t c3 A3 ops code rv X R) : RSt TO TR TI w0 w.drew ob rb g c9 n t c3 A3 ops code rv X R := by
  obtain ⟨h1, h2, h3, h4, h5, h6, h7, h8⟩ := h
  exact ⟨h1, h2, h3, h4, h5.drew, h6, h7, h8⟩
theorem RSt.now_ (h : RSt TO TR TI w0 w ob rb g c9 n t c3 A3 ops code rv X R) (i : Nat) (x : Int) : RSt TO TR TI w0 (w.setCell ⟨g, i, none⟩ (.int .i64 x)) ob rb g c9 n t c3 A3 ops code rv (X.set i x) R := by
  obtain ⟨h1, h2, h3, h4, h5, h6, h7, h8⟩ := h
  have hg := (h3.lt g rfl).1
  exact ⟨h1.far (p := ⟨g, i, none⟩) (fun e => h6.1 e.symm) _, h2.far (p := ⟨g, i, none⟩) (fun e => h6.2.1 e.symm) _, by rw [List.map_set]; exact (h3.stored i _).1, own_set_ne h4 h8 _, h5.setCell (p := ⟨g, i, none⟩) hg _, h6, h7, h8⟩
theorem RSt.cell (h : RSt TO TR TI w0 w ob rb g c9 n t c3 A3 ops code rv X R) {i : Nat} (hi : i < n) : w.cell? ⟨g, i, none⟩ = some (.int .i64 (X.getD i 0)) := by
  have hl : X.length = n := by have := h.2.2.1.1; simpa using this
  rw [h.2.2.1.cellAt i (by omega), List.getElem?_map, List.getElem?_eq_getElem (by omega), List.getD_eq_getElem?_getD, List.getElem?_eq_getElem (by omega)]; rfl
theorem RSt.row (h : RSt TO TR TI w0 w ob rb g c9 n t c3 A3 ops code rv X R) {X' : List Int} (he : X = X') : RSt TO TR TI w0 w ob rb g c9 n t c3 A3 ops code rv X' R := by subst he; exact h
end
end Go.Dam
namespace Go.Proofs.Ytaipnjoeejgnnaa
open Go Go.RowKit Go.Dam
set_option linter.unusedVariables false
abbrev RS (w0 w : World) (ob rb g c9 n t c3 : Nat) (A3 : Option Addr) (kind olo ohi c : Int) (code rv : Int) (X R : List Int) : Prop :=
  RSt 90 36 3 w0 w ob rb g c9 n t c3 A3 #[.int .i64 kind, .int .i64 olo, .int .i64 ohi, .int .i64 c] code rv X R
set_option maxRecDepth 100000 in
set_option maxHeartbeats 16000000 in
theorem refSeg_any (v u : Value) (l o r nw : List Int) (m : Nat) (cc : Int) (w : World) (B : Nat) (hB : B ≤ w.heap.size) (h : IsInts .i64 w B v l) (hu : IsFlat 4 w B u m o) (hR : PlayR l o m r nw cc) :
    Calls Try.prog 19 #[v, u] w (GivesPlay r nw cc w) := by
  have HCo := Lib.hid coordMay_any
  obtain ⟨A, c, rfl, hc, hm, hn0, hr, hw⟩ := h
  obtain ⟨A2, c2, rfl, hc2, hm2, hn2, hl2, hr2, hw2⟩ := hu
  rcases hR with ⟨hs, rfl, rfl, rfl⟩ | ⟨hs, ha, rfl, rfl, rfl⟩ | ⟨hs, ha, rfl, rfl, rfl⟩
  · have hs' : l.length < 1 ∨ (¬ l.length < 1 ∧ 300 < l.length) ∨ (¬ l.length < 1 ∧ ¬ 300 < l.length ∧ 300 < m) := by omega
    clear hs hr hr2 hw hw2 hl2
    rcases hs' with h1 | ⟨h1, h2⟩ | ⟨h1, h2, h3⟩
    · have h0 : l = [] := List.length_eq_zero_iff.1 (by omega)
      subst h0
      go_enter Try.func19, Try.ntmps19
      go_wp2_with fail
      go_ret3
      exact ⟨_, _, 0, rfl, by omega, isFlat_nil _ _ _, isInts_nil _ _ _, Below.refl _ _⟩
    · obtain ⟨n, hn⟩ : ∃ n, l.length = n := ⟨_, rfl⟩
      rw [hn] at h1 h2 ⊢
      clear hn
      have t1 : ((n : Int) == 0) = false := beq_eq_false_iff_ne.2 (by omega)
      have t1' : decide (n = 0) = false := decide_eq_false (by omega)
      have t2' : decide (300 < (n : Int)) = true := decide_eq_true (by omega)
      go_enter Try.func19, Try.ntmps19
      go_wp2_with fail
      go_ret3
      exact ⟨_, _, 0, rfl, by omega, isFlat_nil _ _ _, isInts_nil _ _ _, Below.refl _ _⟩
    · obtain ⟨n, hn⟩ : ∃ n, l.length = n := ⟨_, rfl⟩
      rw [hn] at h1 h2 ⊢
      clear hn
      have t1 : ((n : Int) == 0) = false := beq_eq_false_iff_ne.2 (by omega)
      have t1' : decide (n = 0) = false := decide_eq_false (by omega)
      have t2' : decide (300 < (n : Int)) = false := decide_eq_false (by omega)
      have t3' : decide (300 < (m : Int)) = true := decide_eq_true (by omega)
      go_enter Try.func19, Try.ntmps19
      go_wp2_with fail
      go_ret3
      exact ⟨_, _, 0, rfl, by omega, isFlat_nil _ _ _, isInts_nil _ _ _, Below.refl _ _⟩
  · obtain ⟨x, hx, hxb⟩ := anyN_true ha
    obtain ⟨bk, off, rfl, hbk, hcells⟩ := ints_cells hr (by omega)
    have HCs := Lib.hid hcells
    obtain ⟨n, hn⟩ : ∃ n, l.length = n := ⟨_, rfl⟩
    rw [hn] at hs hx HCs ⊢
    have HX := Lib.hid (show coordOk (l.getD x 0) = false by simpa using hxb)
    have t1 : ((n : Int) == 0) = false := beq_eq_false_iff_ne.2 (by omega)
    have t1' : decide (n = 0) = false := decide_eq_false (by omega)
    have t2' : decide (300 < (n : Int)) = false := decide_eq_false (by omega)
    have t3' : decide (300 < (m : Int)) = false := decide_eq_false (by omega)
    clear ha hr hr2 hw hw2 hl2 hn hcells hxb
    go_enter Try.func19, Try.ntmps19
    go_wp2_with fail
    go_loop [8, 31] (fun _ iv => ∃ i : Nat, i ≤ x ∧ iv = .int .i64 i) (fun _ iv => n - (intOf iv).toNat)
    case atStart => exact ⟨0, by omega, rfl⟩
    case round =>
      obtain ⟨i, hi, rfl⟩ := hrel
      have i1 : (i : Int) < (n : Int) := by omega
      have k0 := HCs.out i (by omega)
      cases hp : coordOk (l.getD i 0) with
      | true =>
        have HC := Lib.hid fun W => HCo.out _ _ W hp
        have hix : i < x := by
          rcases Nat.lt_or_ge i x with g | g
          · exact g
          · obtain rfl : i = x := by omega
            have := HX.out; rw [hp] at this; cases this
        generalize l.getD i 0 = y at *
        clear hp
        go_wp2_with (go_at_call 55; refine (HC.out _).mono ?_; rintro e w1 ⟨rfl, rfl⟩)
        go_round
        case rel => exact ⟨i + 1, by omega, by go_num⟩
        case measure => simp [intOf]; omega
      | false =>
        have HC := Lib.hid fun W => HCo.out _ _ W hp
        generalize l.getD i 0 = y at *
        clear hp
        go_wp2_with (go_at_call 55; refine (HC.out _).mono ?_; rintro e w1 ⟨rfl, rfl⟩)
        go_ret3
        exact ⟨_, _, 0, rfl, by omega, isFlat_nil _ _ _, isInts_nil _ _ _, Below.refl _ _⟩
  · have HL := Lib.hid (coord_all ha)
    obtain ⟨bk, off, rfl, hbk, hcells⟩ := ints_cells hr (by omega)
    have HCs := Lib.hid hcells
    have HRd := Lib.hid hr
    obtain ⟨n, hn⟩ : ∃ n, l.length = n := ⟨_, rfl⟩
    rw [hn] at hs HCs HL HRd ⊢
    have HN := Lib.hid hn
    have hn1 : 1 ≤ n ∧ n ≤ 300 := by omega
    have hm3 : m ≤ 300 := by omega
    have t1 : ((n : Int) == 0) = false := beq_eq_false_iff_ne.2 (by omega)
    have t1' : decide (n = 0) = false := decide_eq_false (by omega)
    have t2' : decide (300 < (n : Int)) = false := decide_eq_false (by omega)
    have t3' : decide (300 < (m : Int)) = false := decide_eq_false (by omega)
    have HR2 := Lib.hid hr2
    have HL2 := Lib.hid hl2
    clear ha hr hr2 hw hw2 hl2 hs hn hcells
    go_enter Try.func19, Try.ntmps19
    go_wp2_with fail
    go_loop [8, 31] (fun _ iv => ∃ i : Nat, i ≤ n ∧ iv = .int .i64 i) (fun _ iv => n - (intOf iv).toNat)
    case atStart => exact ⟨0, by omega, rfl⟩
    case round =>
      obtain ⟨i, hi, rfl⟩ := hrel
      by_cases hlt : i < n
      · have i1 : (i : Int) < (n : Int) := by omega
        have k0 := HCs.out i (by omega)
        have hp := HL.out i hlt
        have HC := Lib.hid fun W => HCo.out _ _ W hp
        generalize l.getD i 0 = y at *
        clear hp
        go_wp2_with (go_at_call 55; refine (HC.out _).mono ?_; rintro e w1 ⟨rfl, rfl⟩)
        go_round
        case rel => exact ⟨i + 1, by omega, by go_num⟩
        case measure => simp [intOf]; omega
      · obtain rfl : n = i := by omega
        have i6 : ¬ (n : Int) < (n : Int) := by omega
        go_wp2_with (at_builtin; refine wpList_copyReads el_int rfl _ _ rfl rfl B (some ⟨bk, off, none⟩) n c _ HRd.out rfl (fun y hy => by obtain ⟨z, _, rfl⟩ := List.mem_map.1 hy; rfl) (by omega) (by omega) ?_; intro v2 w2 hown2 hg2; have HO2 := Lib.hid hown2; have HG2 := Lib.hid hg2; obtain ⟨A4, c4, rfl⟩ := own_shape hown2; clear hown2 hg2)
        have hz2 := HG2.out.size
        obtain ⟨g, cap, hv2, hbg, hg2⟩ := HO2.out.form (by omega)
        injection hv2 with hA4 _ hc4
        subst hA4 hc4
        have HB2 : Hid (Below w.heap.size w w2) := Lib.hid ((Below.refl _ _).grown HG2.out (Nat.le_refl _) (fun k e => by cases e))
        have HE0 : Hid (rowG n (nowT l o n 0) = l) := Lib.hid (by rw [← HN.out]; exact (rowG_congr fun i _ => nowT_0 l o _ i).trans (rowG_start l))
        go_wp2_with fail
        go_loopw [10, 12, 13, 14, 15, 43] (fun ov _ _ _ _ iv wr => ∃ t : Nat, t ≤ m ∧ iv = .int .i64 t ∧ Hid (wr.ownsRow w.heap.size 36 2 ov t ((repT l o n t).map (Value.int .i64))) ∧ Hid (wr.ownsRow w.heap.size 3 1 (.slice (some ⟨g, 0, none⟩) n c4) n ((rowG n (nowT l o n t)).map (Value.int .i64))) ∧ Hid (Below w.heap.size w wr)) (fun _ _ _ _ _ iv _ => m - (intOf iv).toNat)
        case atStart => exact ⟨0, by omega, rfl, Lib.hid (by rw [repT_0]; exact World.ownsRow_nil _ _ _ _), Lib.hid (by rw [HE0.out]; exact HO2.out), HB2⟩
        case round =>
          obtain ⟨wo, rfl⟩ : ∃ wo : World, wo = wr := ⟨_, rfl⟩
          obtain ⟨t, ht, rfl, HO, HNw, HB⟩ := hrel
          obtain ⟨A3, c3, rfl⟩ := own_shape HO.out
          have hzo := HB.out.size
          by_cases hlt : t < m
          · have i1 : (t : Int) < (m : Int) := by omega
            have tt1 : decide ((t : Int) < (m : Int)) = true := decide_eq_true i1
            obtain ⟨ob, oo, rfl, hob, hoc⟩ := flat_cells HR2.out HL2.out (by omega) (by omega)
            have cell : ∀ j, j < m * 4 → wo.cell? ⟨ob, oo + j, none⟩ = some (.int .i64 (o.getD j 0)) := fun j hj => (HB.out.cell (p := ⟨ob, oo + j, none⟩) (by show ob < _; omega)).trans (hoc j hj)
            have k0 := cell (t * 4) (by omega)
            have k1 := cell (t * 4 + 1) (by omega)
            have k2 := cell (t * 4 + 2) (by omega)
            have k3 := cell (t * 4 + 3) (by omega)
            rw [← Nat.add_assoc] at k1 k2 k3
            have HRp := Lib.hid (repT_succ l o n t)
            have HYes := Lib.hid fun h0 i => nowT_yes l o n (t := t) h0 i
            have HNo := Lib.hid fun h0 i => nowT_no l o n (t := t) h0 i
            have HOther := Lib.hid fun h3 h4 => valT_other (l := l) (o := o) (n := n) (t := t) h3 h4
            have HVB := Lib.hid fun h0 => valT_bad (l := l) (o := o) (n := n) (t := t) h0
            have HZ := Lib.hid fun h0 => badT_zero (o := o) (n := n) (t := t) h0
            have HVL := Lib.hid fun lo hi v h0 => @valT_least l o n t lo hi v h0
            have HVS := Lib.hid fun lo hi v h0 => @valT_sum l o n t lo hi v h0
            have hbd : ∀ i, i < n → -315621376 ≤ nowT l o n t i ∧ nowT l o n t i ≤ 315621376 := fun i hi => nowT_le HL.out (by omega) hi
            have HBd := Lib.hid hbd
            have hbd1 : ∀ i, i < n → -315621376 ≤ nowT l o n (t + 1) i ∧ nowT l o n (t + 1) i ≤ 315621376 := fun i hi => nowT_le HL.out (by omega) hi
            have HBd1 := Lib.hid hbd1
            obtain ⟨bad, hbad⟩ : ∃ q, badT o n t = q := ⟨_, rfl⟩
            have hbad2 : opBad n (o.getD (t * 4) 0) (o.getD (t * 4 + 1) 0) (o.getD (t * 4 + 2) 0) (o.getD (t * 4 + 3) 0) = bad := by rw [← hbad]; unfold badT; rfl
            have HBad := Lib.hid hbad2
            obtain ⟨val, hval⟩ : ∃ q, valT l o n t = q := ⟨_, rfl⟩
            rw [hbad] at HRp HYes HNo HVB HZ HVL HVS
            rw [hval] at HRp HOther HVB HVL HVS
            clear hbad hbad2 hval cell hoc hbd hbd1
            generalize o.getD (t * 4) 0 = kind at *
            generalize o.getD (t * 4 + 1) 0 = olo at *
            generalize o.getD (t * 4 + 2) 0 = ohi at *
            generalize o.getD (t * 4 + 3) 0 = by_ at *
            have HT : Hid (RS w ((wo.alloc (.cells #[.int .i64 kind, .int .i64 olo, .int .i64 ohi, .int .i64 by_] 90)).alloc (.cells #[.int .i64 0, .int .i64 0] 36)) wo.heap.size (wo.heap.size + 1) g c4 n t c3 A3 kind olo ohi by_ 0 0 (rowG n (nowT l o n t)) (repT l o n t)) := Lib.hid
              ⟨(Blk.new _ _ _).alloc _, Blk.new_at _ _ _ _ (by simp), (HNw.out.alloc _).alloc _, (HO.out.alloc _).alloc _, (HB.out.alloc hzo _).alloc (by simp; omega) _, ⟨by have := (HNw.out.lt g rfl).2; omega, by have := (HNw.out.lt g rfl).2; omega, by omega, by omega⟩, (fun e => by have := (HO.out.lt _ e).2; omega), own_apart HO.out HNw.out (by decide) |> fun ha e => ha g e rfl⟩
            go_upto_region 30 with fail
            clear k0 k1 k2 k3
            generalize (wo.alloc (.cells #[.int .i64 kind, .int .i64 olo, .int .i64 ohi, .int .i64 by_] 90)).alloc (.cells #[.int .i64 0, .int .i64 0] 36) = WR at *
            have p0 := (HT.out.1.cell 0).trans rfl
            have p1 := (HT.out.1.cell 1).trans rfl
            have p2 := (HT.out.1.cell 2).trans rfl
            have p3 := (HT.out.1.cell 3).trans rfl
            have f0 := HT.out.2.1.frozen 0
            have q0 := (HT.out.2.1.cell 0).trans rfl
            have HCb0 : Hid (coordOk by_ = coordOk by_) := Lib.hid rfl
            by_cases h1 : kind < 1 ∨ 4 < kind
            · have h1' : decide (kind < 1) = true ∨ (decide (kind < 1) = false ∧ decide (4 < kind) = true) := by
                rcases h1 with h | h
                · exact .inl (decide_eq_true h)
                · exact .inr ⟨decide_eq_false (by omega), decide_eq_true h⟩
              obtain rfl : bad = 3 := by rw [← HBad.out]; exact opBad_kind h1
              obtain rfl : val = 0 := HVB.out (by decide)
              have HT := Lib.hid ((HT.out.code_ 3).row (rowG_congr fun i _ => (HNo.out (by decide) i).symm))
              clear h1
              rcases h1' with t5 | ⟨t5, t6⟩
              all_goals
                go_upto_region 36 with fail
                clear q0 p0 p1 p2 p3 f0
                generalize WR.setCell ⟨wo.heap.size + 1, 0, none⟩ (.int .i64 3) = W9 at *
                have q0 := (HT.out.2.1.cell 0).trans rfl
                have q1 := (HT.out.2.1.cell 1).trans rfl
                have hzT := HT.out.2.2.2.2.1.size
                go_wp2_with (at_builtin; refine wpList_pushM el_reply rfl (.tmp 142) (.tmp 144) rfl w.heap.size _ t _ (HT.out.2.2.2.1.alloc _) rfl ⟨W9.heap.size, 0, none⟩ 1 _ [.int .i64 3, .int .i64 0] rfl rfl (two_news rfl) two_ones (by omega) (by omega) (by simp; omega) ?_; intro v' w4 hown4 hg4 hl4)
                go_roundw
                case rel => exact ⟨t + 1, by omega, by go_num, Lib.hid (by rw [HRp.out, List.map_append]; exact hown4), Lib.hid ((HT.out.2.2.1.alloc _).kept hg4 (.inr (fun e => HT.out.2.2.2.2.2.2.2 (by rw [← e]; rfl)))), Lib.hid (below_push (HT.out.2.2.2.2.1.alloc hzT _) (HT.out.2.2.2.1.alloc _) (Nat.le_refl _) (by simp; omega) hg4)⟩
                case measure => simp [intOf]; omega
            have t5 : decide (kind < 1) = false := decide_eq_false (by omega)
            have t6 : decide (4 < kind) = false := decide_eq_false (by omega)
            by_cases h2 : olo < 0 ∨ ohi < olo ∨ (n : Int) ≤ ohi
            · have h2' : decide (olo < 0) = true ∨ (decide (olo < 0) = false ∧ decide (ohi < olo) = true) ∨ (decide (olo < 0) = false ∧ decide (ohi < olo) = false ∧ decide ((n : Int) ≤ ohi) = true) := by
                by_cases a1 : olo < 0
                · exact .inl (decide_eq_true a1)
                · by_cases a2 : ohi < olo
                  · exact .inr (.inl ⟨decide_eq_false a1, decide_eq_true a2⟩)
                  · exact .inr (.inr ⟨decide_eq_false a1, decide_eq_false a2, decide_eq_true (by omega)⟩)
              obtain rfl : bad = 2 := by rw [← HBad.out]; exact opBad_range h1 (by rcases h2 with h | h | h; exact .inl h; exact .inr (.inl h); exact .inr (.inr (.inl h)))
              obtain rfl : val = 0 := HVB.out (by decide)
              have HT := Lib.hid ((HT.out.code_ 2).row (rowG_congr fun i _ => (HNo.out (by decide) i).symm))
              clear h1 h2
              rcases h2' with t7 | ⟨t7, t8⟩ | ⟨t7, t8, t9⟩
              all_goals
                go_upto_region 36 with fail
                clear q0 p0 p1 p2 p3 f0
                generalize WR.setCell ⟨wo.heap.size + 1, 0, none⟩ (.int .i64 2) = W9 at *
                have q0 := (HT.out.2.1.cell 0).trans rfl
                have q1 := (HT.out.2.1.cell 1).trans rfl
                have hzT := HT.out.2.2.2.2.1.size
                go_wp2_with (at_builtin; refine wpList_pushM el_reply rfl (.tmp 142) (.tmp 144) rfl w.heap.size _ t _ (HT.out.2.2.2.1.alloc _) rfl ⟨W9.heap.size, 0, none⟩ 1 _ [.int .i64 2, .int .i64 0] rfl rfl (two_news rfl) two_ones (by omega) (by omega) (by simp; omega) ?_; intro v' w4 hown4 hg4 hl4)
                go_roundw
                case rel => exact ⟨t + 1, by omega, by go_num, Lib.hid (by rw [HRp.out, List.map_append]; exact hown4), Lib.hid ((HT.out.2.2.1.alloc _).kept hg4 (.inr (fun e => HT.out.2.2.2.2.2.2.2 (by rw [← e]; rfl)))), Lib.hid (below_push (HT.out.2.2.2.2.1.alloc hzT _) (HT.out.2.2.2.1.alloc _) (Nat.le_refl _) (by simp; omega) hg4)⟩
                case measure => simp [intOf]; omega
            have t7 : decide (olo < 0) = false := decide_eq_false (by omega)
            have t8 : decide (ohi < olo) = false := decide_eq_false (by omega)
            have t9 : decide ((n : Int) ≤ ohi) = false := decide_eq_false (by omega)
            by_cases h3 : kind ≤ 2 ∧ coordOk by_ = false
            · obtain ⟨h4, h5⟩ := h3
              have HC := Lib.hid fun W => HCo.out _ _ W h5
              have t10 : decide (kind ≤ 2) = true := decide_eq_true h4
              obtain rfl : bad = 2 := by rw [← HBad.out]; exact opBad_range h1 (.inr (.inr (.inr ⟨h4, h5⟩)))
              obtain rfl : val = 0 := HVB.out (by decide)
              have HT := Lib.hid ((HT.out.code_ 2).row (rowG_congr fun i _ => (HNo.out (by decide) i).symm))
              clear h1 h2 h4 h5 HBad
              go_upto_region 36 with (go_at_call 55; refine (HC.out _).mono ?_; rintro e w1 ⟨rfl, rfl⟩)
              clear q0 p0 p1 p2 p3 f0
              generalize WR.setCell ⟨wo.heap.size + 1, 0, none⟩ (.int .i64 2) = W9 at *
              have q0 := (HT.out.2.1.cell 0).trans rfl
              have q1 := (HT.out.2.1.cell 1).trans rfl
              have hzT := HT.out.2.2.2.2.1.size
              go_wp2_with (at_builtin; refine wpList_pushM el_reply rfl (.tmp 142) (.tmp 144) rfl w.heap.size _ t _ (HT.out.2.2.2.1.alloc _) rfl ⟨W9.heap.size, 0, none⟩ 1 _ [.int .i64 2, .int .i64 0] rfl rfl (two_news rfl) two_ones (by omega) (by omega) (by simp; omega) ?_; intro v' w4 hown4 hg4 hl4)
              go_roundw
              case rel => exact ⟨t + 1, by omega, by go_num, Lib.hid (by rw [HRp.out, List.map_append]; exact hown4), Lib.hid ((HT.out.2.2.1.alloc _).kept hg4 (.inr (fun e => HT.out.2.2.2.2.2.2.2 (by rw [← e]; rfl)))), Lib.hid (below_push (HT.out.2.2.2.2.1.alloc hzT _) (HT.out.2.2.2.1.alloc _) (Nat.le_refl _) (by simp; omega) hg4)⟩
              case measure => simp [intOf]; omega
            obtain rfl : bad = 0 := by rw [← HBad.out]; exact opBad_ok h1 (by rintro (h | h | h | h); exact h2 (.inl h); exact h2 (.inr (.inl h)); exact h2 (.inr (.inr h)); exact h3 h)
            have hco : kind ≤ 2 → coordOk by_ = true := fun h => by
              cases hc9 : coordOk by_ with
              | true => rfl
              | false => exact absurd ⟨h, hc9⟩ h3
            have hk4 : kind = 1 ∨ kind = 2 ∨ kind = 3 ∨ kind = 4 := by omega
            obtain ⟨lo, rfl⟩ : ∃ lo : Nat, olo = lo := ⟨olo.toNat, by omega⟩
            obtain ⟨hi, rfl⟩ : ∃ hi : Nat, ohi = hi := ⟨ohi.toNat, by omega⟩
            have hlh : lo ≤ hi := by omega
            have hhn : hi < n := by omega
            have j1 : (lo : Int) < (n : Int) := by omega
            have k9 := HT.out.cell (i := lo) (by omega)
            rw [rowG_at _ (by omega)] at k9
            have t7' : ¬ (lo : Int) < 0 := by omega
            have t8' : decide (hi < lo) = false := decide_eq_false (by omega)
            have t9' : decide (n ≤ hi) = false := decide_eq_false (by omega)
            rcases hk4 with rfl | rfl | rfl | rfl
            · -- kind 1
              clear HBad h1 h2 h3
              have HY := Lib.hid fun i => HYes.out (by trivial) i
              have HC := Lib.hid fun W => HCo.out _ _ W (hco (by decide))
              clear hco
              obtain rfl : val = 0 := (HOther.out (by decide) (by decide)).symm ▸ rfl
              go_wp2_with (go_at_call 55; refine (HC.out _).mono ?_; rintro e w1 ⟨rfl, rfl⟩)
              clear q0 p0 p1 p2 p3 f0 k9
              go_loopw [14, 15] (fun _ iv wr => ∃ i : Nat, lo ≤ i ∧ i ≤ hi + 1 ∧ iv = .int .i64 i ∧ Hid (RS w wr wo.heap.size (wo.heap.size + 1) g c4 n t c3 A3 1 lo hi by_ 0 0 (rowG n (opF 1 lo ((i : Int) - 1) by_ (nowT l o n t))) (repT l o n t))) (fun _ iv _ => hi + 1 - (intOf iv).toNat)
              case atStart => exact ⟨lo, by omega, by omega, rfl, Lib.hid (HT.out.row (rowG_congr fun j _ => (opF_out (by omega)).symm))⟩
              case round =>
                clear HT
                obtain ⟨wi, rfl⟩ : ∃ wi : World, wi = wr := ⟨_, rfl⟩
                obtain ⟨i, hi1, hi2, rfl, HT⟩ := hrel
                have p0 := (HT.out.1.cell 0).trans rfl
                have p1 := (HT.out.1.cell 1).trans rfl
                have p2 := (HT.out.1.cell 2).trans rfl
                have p3 := (HT.out.1.cell 3).trans rfl
                by_cases hle : i ≤ hi
                · have i1 : (i : Int) ≤ (hi : Int) := by omega
                  have i2 : (i : Int) < (n : Int) := by omega
                  have tt3 : decide (i ≤ hi) = true := decide_eq_true hle
                  have k9 := HT.out.cell (i := i) (by omega)
                  rw [rowG_at _ (by omega)] at k9
                  have f9 := HT.out.2.2.1.frozenAt i
                  rw [opF_out (by omega)] at k9
                  have hb9 := HBd1.out i (by omega)
                  rw [HY.out i, opF_add (by omega)] at hb9
                  have HS : Hid ((rowG n (opF 1 lo ((i : Int) - 1) by_ (nowT l o n t))).set i (nowT l o n t i + by_) = rowG n (opF 1 lo (((i + 1 : Nat) : Int) - 1) by_ (nowT l o n t))) := Lib.hid (rowG_set (by omega) (opF_add (by omega)) fun j _ hne => opF_upto hne)
                  generalize nowT l o n t i = fi at *
                  have hwr : IntKind.i64.wrap (fi + by_) = fi + by_ := IntWalk.i64_in _ (by omega)
                  go_wp2_with fail
                  go_region
                  go_wp2_with fail
                  go_roundw
                  case rel => exact ⟨i + 1, by omega, by omega, by go_num, Lib.hid (((HT.out.now_ i _).row HS.out).drew)⟩
                  case measure => simp [intOf]; omega
                · obtain rfl : i = hi + 1 := by omega
                  have i6 : ¬ ((hi + 1 : Nat) : Int) ≤ (hi : Int) := by omega
                  have tt4 : decide (hi + 1 ≤ hi) = false := decide_eq_false (by omega)
                  have HT := Lib.hid (HT.out.row (X' := rowG n (nowT l o n (t + 1))) (rowG_congr fun j _ => by rw [HY.out j]; exact opF_hi 1 lo hi by_ _ j))
                  have q0 := (HT.out.2.1.cell 0).trans rfl
                  have q1 := (HT.out.2.1.cell 1).trans rfl
                  have hzT := HT.out.2.2.2.2.1.size
                  go_wp2_with (at_builtin; refine wpList_pushM el_reply rfl (.tmp 142) (.tmp 144) rfl w.heap.size _ t _ (HT.out.2.2.2.1.alloc _) rfl ⟨wi.heap.size, 0, none⟩ 1 _ [.int .i64 0, .int .i64 0] rfl rfl (two_news rfl) two_ones (by omega) (by omega) (by simp; omega) ?_; intro v' w4 hown4 hg4 hl4)
                  go_roundw
                  case rel => exact ⟨t + 1, by omega, by go_num, Lib.hid (by rw [HRp.out, List.map_append]; exact hown4), Lib.hid ((HT.out.2.2.1.alloc _).kept hg4 (.inr (fun e => HT.out.2.2.2.2.2.2.2 (by rw [← e]; rfl)))), Lib.hid (below_push (HT.out.2.2.2.2.1.alloc hzT _) (HT.out.2.2.2.1.alloc _) (Nat.le_refl _) (by simp; omega) hg4)⟩
                  case measure => simp [intOf]; omega
            · -- kind 2
              clear HBad h1 h2 h3
              have HY := Lib.hid fun i => HYes.out (by trivial) i
              have HC := Lib.hid fun W => HCo.out _ _ W (hco (by decide))
              clear hco
              obtain rfl : val = 0 := (HOther.out (by decide) (by decide)).symm ▸ rfl
              go_wp2_with (go_at_call 55; refine (HC.out _).mono ?_; rintro e w1 ⟨rfl, rfl⟩)
              clear q0 p0 p1 p2 p3 f0 k9
              go_loopw [14, 15] (fun _ iv wr => ∃ i : Nat, lo ≤ i ∧ i ≤ hi + 1 ∧ iv = .int .i64 i ∧ Hid (RS w wr wo.heap.size (wo.heap.size + 1) g c4 n t c3 A3 2 lo hi by_ 0 0 (rowG n (opF 2 lo ((i : Int) - 1) by_ (nowT l o n t))) (repT l o n t))) (fun _ iv _ => hi + 1 - (intOf iv).toNat)
              case atStart => exact ⟨lo, by omega, by omega, rfl, Lib.hid (HT.out.row (rowG_congr fun j _ => (opF_out (by omega)).symm))⟩
              case round =>
                clear HT
                obtain ⟨wi, rfl⟩ : ∃ wi : World, wi = wr := ⟨_, rfl⟩
                obtain ⟨i, hi1, hi2, rfl, HT⟩ := hrel
                have p0 := (HT.out.1.cell 0).trans rfl
                have p1 := (HT.out.1.cell 1).trans rfl
                have p2 := (HT.out.1.cell 2).trans rfl
                have p3 := (HT.out.1.cell 3).trans rfl
                by_cases hle : i ≤ hi
                · have i1 : (i : Int) ≤ (hi : Int) := by omega
                  have i2 : (i : Int) < (n : Int) := by omega
                  have tt3 : decide (i ≤ hi) = true := decide_eq_true hle
                  have k9 := HT.out.cell (i := i) (by omega)
                  rw [rowG_at _ (by omega)] at k9
                  have f9 := HT.out.2.2.1.frozenAt i
                  have HS : Hid ((rowG n (opF 2 lo ((i : Int) - 1) by_ (nowT l o n t))).set i by_ = rowG n (opF 2 lo (((i + 1 : Nat) : Int) - 1) by_ (nowT l o n t))) := Lib.hid (rowG_set (by omega) (opF_set (by omega)) fun j _ hne => opF_upto hne)
                  generalize opF 2 lo ((i : Int) - 1) by_ (nowT l o n t) i = fi at k9
                  go_wp2_with fail
                  go_roundw
                  case rel => exact ⟨i + 1, by omega, by omega, by go_num, Lib.hid ((HT.out.now_ i _).row HS.out)⟩
                  case measure => simp [intOf]; omega
                · obtain rfl : i = hi + 1 := by omega
                  have i6 : ¬ ((hi + 1 : Nat) : Int) ≤ (hi : Int) := by omega
                  have tt4 : decide (hi + 1 ≤ hi) = false := decide_eq_false (by omega)
                  have HT := Lib.hid (HT.out.row (X' := rowG n (nowT l o n (t + 1))) (rowG_congr fun j _ => by rw [HY.out j]; exact opF_hi 2 lo hi by_ _ j))
                  have q0 := (HT.out.2.1.cell 0).trans rfl
                  have q1 := (HT.out.2.1.cell 1).trans rfl
                  have hzT := HT.out.2.2.2.2.1.size
                  go_wp2_with (at_builtin; refine wpList_pushM el_reply rfl (.tmp 142) (.tmp 144) rfl w.heap.size _ t _ (HT.out.2.2.2.1.alloc _) rfl ⟨wi.heap.size, 0, none⟩ 1 _ [.int .i64 0, .int .i64 0] rfl rfl (two_news rfl) two_ones (by omega) (by omega) (by simp; omega) ?_; intro v' w4 hown4 hg4 hl4)
                  go_roundw
                  case rel => exact ⟨t + 1, by omega, by go_num, Lib.hid (by rw [HRp.out, List.map_append]; exact hown4), Lib.hid ((HT.out.2.2.1.alloc _).kept hg4 (.inr (fun e => HT.out.2.2.2.2.2.2.2 (by rw [← e]; rfl)))), Lib.hid (below_push (HT.out.2.2.2.2.1.alloc hzT _) (HT.out.2.2.2.1.alloc _) (Nat.le_refl _) (by simp; omega) hg4)⟩
                  case measure => simp [intOf]; omega
            · -- kind 3
              clear HBad h1 h2 h3 hco
              have HY := Lib.hid fun i => HYes.out (by trivial) i
              go_wp2_with (go_at_call 55; refine (HC.out _).mono ?_; rintro e w1 ⟨rfl, rfl⟩)
              clear q0 p0 p1 p2 p3 f0 k9
              go_loopw [14, 15] (fun lv iv wr => ∃ i : Nat, lo ≤ i ∧ i ≤ hi + 1 ∧ iv = .int .i64 i ∧ Hid (∃ v, lv = .int .i64 v ∧ LeastTo (nowT l o n t) lo i v) ∧ Hid (RS w wr wo.heap.size (wo.heap.size + 1) g c4 n t c3 A3 3 lo hi by_ 0 0 (rowG n (nowT l o n t)) (repT l o n t))) (fun _ iv _ => hi + 1 - (intOf iv).toNat)
              case atStart => exact ⟨lo, by omega, by omega, rfl, Lib.hid ⟨_, rfl, .inl ⟨rfl, rfl⟩⟩, HT⟩
              case round =>
                clear HT
                obtain ⟨wi, rfl⟩ : ∃ wi : World, wi = wr := ⟨_, rfl⟩
                obtain ⟨i, hi1, hi2, rfl, hlv, HT⟩ := hrel
                obtain ⟨lv0, rfl, hL⟩ := hlv.out
                have HLt := Lib.hid hL
                clear hL hlv
                have p0 := (HT.out.1.cell 0).trans rfl
                have p1 := (HT.out.1.cell 1).trans rfl
                have p2 := (HT.out.1.cell 2).trans rfl
                have p3 := (HT.out.1.cell 3).trans rfl
                by_cases hle : i ≤ hi
                · have i1 : (i : Int) ≤ (hi : Int) := by omega
                  have i2 : (i : Int) < (n : Int) := by omega
                  have tt3 : decide (i ≤ hi) = true := decide_eq_true hle
                  have k9 := HT.out.cell (i := i) (by omega)
                  rw [rowG_at _ (by omega)] at k9
                  have f9 := HT.out.2.2.1.frozenAt i
                  have HSt := Lib.hid fun v' => HLt.out.step (v' := v')
                  generalize nowT l o n t i = fi at k9 HSt
                  go_wp2_with fail
                  all_goals go_roundw
                  all_goals first
                    | (case rel => exact ⟨i + 1, by omega, by omega, by go_num, Lib.hid ⟨_, rfl, HSt.out _ (by omega)⟩, HT⟩)
                    | (case measure => simp [intOf]; omega)
                · obtain rfl : i = hi + 1 := by omega
                  have i6 : ¬ ((hi + 1 : Nat) : Int) ≤ (hi : Int) := by omega
                  have tt4 : decide (hi + 1 ≤ hi) = false := decide_eq_false (by omega)
                  have g9 := HT.out.2.1.frozen 1
                  have q9 := (HT.out.2.1.cell 1).trans rfl
                  obtain rfl := HVL.out lo hi lv0 (by trivial) (by trivial) (by trivial) (by trivial) hlh HLt.out
                  have HT := Lib.hid (((HT.out.row (X' := rowG n (nowT l o n (t + 1))) (rowG_congr fun j _ => by rw [HY.out j]; exact (opF_ask (by decide) (by decide)).symm))).val_ lv0)
                  go_upto_region 36 with fail
                  clear p0 p1 p2 p3 g9 q9
                  generalize wi.setCell ⟨wo.heap.size + 1, 1, none⟩ (.int .i64 lv0) = W9 at *
                  have q0 := (HT.out.2.1.cell 0).trans rfl
                  have q1 := (HT.out.2.1.cell 1).trans rfl
                  have hzT := HT.out.2.2.2.2.1.size
                  go_wp2_with (at_builtin; refine wpList_pushM el_reply rfl (.tmp 142) (.tmp 144) rfl w.heap.size _ t _ (HT.out.2.2.2.1.alloc _) rfl ⟨W9.heap.size, 0, none⟩ 1 _ [.int .i64 0, .int .i64 lv0] rfl rfl (two_news rfl) two_ones (by omega) (by omega) (by simp; omega) ?_; intro v' w4 hown4 hg4 hl4)
                  go_roundw
                  case rel => exact ⟨t + 1, by omega, by go_num, Lib.hid (by rw [HRp.out, List.map_append]; exact hown4), Lib.hid ((HT.out.2.2.1.alloc _).kept hg4 (.inr (fun e => HT.out.2.2.2.2.2.2.2 (by rw [← e]; rfl)))), Lib.hid (below_push (HT.out.2.2.2.2.1.alloc hzT _) (HT.out.2.2.2.1.alloc _) (Nat.le_refl _) (by simp; omega) hg4)⟩
                  case measure => simp [intOf]; omega
            · -- kind 4
              clear HBad h1 h2 h3 hco
              have HY := Lib.hid fun i => HYes.out (by trivial) i
              go_wp2_with (go_at_call 55; refine (HC.out _).mono ?_; rintro e w1 ⟨rfl, rfl⟩)
              clear q0 p0 p1 p2 p3 f0 k9
              go_loopw [14, 15] (fun _ iv wr => ∃ i : Nat, lo ≤ i ∧ i ≤ hi + 1 ∧ iv = .int .i64 i ∧ Hid (∃ S, SumTo (nowT l o n t) lo i S ∧ RS w wr wo.heap.size (wo.heap.size + 1) g c4 n t c3 A3 4 lo hi by_ 0 S (rowG n (nowT l o n t)) (repT l o n t))) (fun _ iv _ => hi + 1 - (intOf iv).toNat)
              case atStart => exact ⟨lo, by omega, by omega, rfl, Lib.hid ⟨0, .inl ⟨rfl, rfl⟩, HT.out⟩⟩
              case round =>
                clear HT
                obtain ⟨wi, rfl⟩ : ∃ wi : World, wi = wr := ⟨_, rfl⟩
                obtain ⟨i, hi1, hi2, rfl, hST⟩ := hrel
                obtain ⟨S, hS, hT⟩ := hST.out
                have HSm := Lib.hid hS
                have HT := Lib.hid hT
                have hSb := hS.bound (M := 315621376) (fun j a b => HBd.out j (by omega)) (by omega) (by omega) (by omega)
                clear hS hT hST
                have p0 := (HT.out.1.cell 0).trans rfl
                have p1 := (HT.out.1.cell 1).trans rfl
                have p2 := (HT.out.1.cell 2).trans rfl
                have p3 := (HT.out.1.cell 3).trans rfl
                by_cases hle : i ≤ hi
                · have i1 : (i : Int) ≤ (hi : Int) := by omega
                  have i2 : (i : Int) < (n : Int) := by omega
                  have tt3 : decide (i ≤ hi) = true := decide_eq_true hle
                  have k9 := HT.out.cell (i := i) (by omega)
                  rw [rowG_at _ (by omega)] at k9
                  have f9 := HT.out.2.2.1.frozenAt i
                  have q1 := (HT.out.2.1.cell 1).trans rfl
                  have g1 := HT.out.2.1.frozen 1
                  have hb9 := HBd.out i (by omega)
                  have HSt := Lib.hid (HSm.out.step rfl)
                  generalize nowT l o n t i = fi at k9 HSt hb9
                  have hwr : IntKind.i64.wrap (S + fi) = S + fi := IntWalk.i64_in _ (by omega)
                  go_wp2_with fail
                  go_region
                  go_wp2_with fail
                  go_roundw
                  case rel => exact ⟨i + 1, by omega, by omega, by go_num, Lib.hid ⟨_, HSt.out, (HT.out.val_ _).drew⟩⟩
                  case measure => simp [intOf]; omega
                · obtain rfl : i = hi + 1 := by omega
                  have i6 : ¬ ((hi + 1 : Nat) : Int) ≤ (hi : Int) := by omega
                  have tt4 : decide (hi + 1 ≤ hi) = false := decide_eq_false (by omega)
                  obtain rfl := HVS.out lo hi S (by trivial) (by trivial) (by trivial) (by trivial) hlh HSm.out
                  have HT := Lib.hid (HT.out.row (X' := rowG n (nowT l o n (t + 1))) (rowG_congr fun j _ => by rw [HY.out j]; exact (opF_ask (by decide) (by decide)).symm))
                  have q0 := (HT.out.2.1.cell 0).trans rfl
                  have q1 := (HT.out.2.1.cell 1).trans rfl
                  have hzT := HT.out.2.2.2.2.1.size
                  go_wp2_with (at_builtin; refine wpList_pushM el_reply rfl (.tmp 142) (.tmp 144) rfl w.heap.size _ t _ (HT.out.2.2.2.1.alloc _) rfl ⟨wi.heap.size, 0, none⟩ 1 _ [.int .i64 0, .int .i64 S] rfl rfl (two_news rfl) two_ones (by omega) (by omega) (by simp; omega) ?_; intro v' w4 hown4 hg4 hl4)
                  go_roundw
                  case rel => exact ⟨t + 1, by omega, by go_num, Lib.hid (by rw [HRp.out, List.map_append]; exact hown4), Lib.hid ((HT.out.2.2.1.alloc _).kept hg4 (.inr (fun e => HT.out.2.2.2.2.2.2.2 (by rw [← e]; rfl)))), Lib.hid (below_push (HT.out.2.2.2.2.1.alloc hzT _) (HT.out.2.2.2.1.alloc _) (Nat.le_refl _) (by simp; omega) hg4)⟩
                  case measure => simp [intOf]; omega
          · obtain rfl : m = t := by omega
            have tt1 : decide ((m : Int) < (m : Int)) = false := decide_eq_false (by omega)
            have i6 : ¬ (m : Int) < (m : Int) := by omega
            go_wp2_with fail
            go_ret3
            refine ⟨_, _, m, rfl, by omega, own_flat HO.out (by omega) (repT_wf HL.out (by omega) m (by omega)), ?_, HB.out⟩
            have h9 := own_ints HNw.out (by rw [rowG_len]; omega) (by rw [rowG_rowT]; exact rowT_wf HL.out (by omega))
            rw [rowG_rowT] at h9
            exact h9
end Go.Proofs.Ytaipnjoeejgnnaa
