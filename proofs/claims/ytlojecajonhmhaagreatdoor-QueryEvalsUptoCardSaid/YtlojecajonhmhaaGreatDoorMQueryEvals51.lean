/-
  Contracts of query.Eval and of the reference's QueryEvaled. Conditions: the expression can be read eight levels down and is not larger than the memory; the points can be read as data; the library's table of powers of ten holds what the library lays.
-/
import Derived.Test.YtlojecajonhmhaaGreatDoorMQueryEvals49
import Derived.Test.YtlojecajonhmhaaGreatDoorMQueryEvals50
import Derived.Test.YtlojecajonhmhaaGreatDoorMQueryEvals28
set_option linter.unusedVariables false
set_option linter.unusedSimpArgs false
namespace Go.Dam.Q
open Go Go.RowKit Go.Dam
set_option linter.unusedVariables false
/-- The code of Eval. -/
def evC (n : Nat) (l : List Int) (x : Ex) : Int := if checkN x = 0 then ptCode n l else checkN x
theorem evC_bad {n : Nat} {l : List Int} {x : Ex} (h : checkN x ≠ 0) : evC n l x = checkN x := by unfold evC; rw [if_neg h]
theorem evC_ok {n : Nat} {l : List Int} {x : Ex} (h : checkN x = 0) : evC n l x = ptCode n l := by unfold evC; rw [if_pos h]
/-- What Eval answers beside the code. -/
def EvalR (n : Nat) (l : List Int) (x : Ex) (r : List Int) : Prop := (evC n l x = 0 ∧ r = natL (meant l n x)) ∨ (evC n l x ≠ 0 ∧ r = [])
theorem EvalR.uniq {n : Nat} {l : List Int} {x : Ex} {r s : List Int} (h : EvalR n l x r) (g : EvalR n l x s) : r = s := by
  rcases h with ⟨h1, h2⟩ | ⟨h1, h2⟩ <;> rcases g with ⟨g1, g2⟩ | ⟨g1, g2⟩
  · rw [h2, g2]
  · exact absurd h1 g1
  · exact absurd g1 h1
  · rw [h2, g2]
theorem meant_le (l : List Int) (n : Nat) (x : Ex) : (meant l n x).length ≤ n := by
  with_unfolding_all (show ((List.range n).filter _).length ≤ n)
  exact Nat.le_trans (List.length_filter_le _ _) (by simp)
theorem meant_lt {l : List Int} {n : Nat} {x : Ex} {i : Nat} (h : i ∈ meant l n x) : i < n := by
  have h2 : i ∈ (List.range n).filter (meansAt l 8 x) := by with_unfolding_all exact h
  exact List.mem_range.1 (List.mem_filter.1 h2).1
theorem meant_wf {l : List Int} {n : Nat} {x : Ex} (hn : n ≤ 150) : ∀ z ∈ natL (meant l n x), (Lit.int .i64 z).wf = true := fun z hz => by
  unfold natL at hz
  obtain ⟨j, hj, rfl⟩ := List.mem_map.1 hz
  have := meant_lt hj
  exact WalkArith.wf_i64 (by omega)
theorem meant_0 (l : List Int) (x : Ex) : meant l 0 x = [] := by with_unfolding_all rfl
theorem meant_step (l : List Int) (x : Ex) (i : Nat) : natL (meant l (i + 1) x) = natL (meant l i x) ++ (if meansAt l 8 x i = true then [(i : Int)] else []) := by
  rw [meant_s]; unfold natL; rw [List.map_append]; congr 1
  cases h : meansAt l 8 x i <;> simp
theorem ex_parts {w : World} {B f : Nat} {k x0 y0 x1 y1 ww : Int} {ps : List Ex} {v : Value} (h : IsEx w B (f + 1) v (.mk k x0 y0 x1 y1 ww ps)) (h0 : 0 < ps.length) : ∃ b o c, v = exV k x0 y0 x1 y1 ww (some ⟨b, o, none⟩) ps.length c ∧ ps.length ≤ 140737488355328 ∧ ps.length ≤ c ∧ c ≤ 9223372036854775807 ∧ b < B ∧ ∀ i, i < ps.length → ∃ v', ExAt w b (o + i * 7) v' ∧ IsEx w B f v' (ps.getD i noEx) := by
  obtain ⟨A, c, rfl, h1, h2, h3, hp⟩ := h.open_
  obtain ⟨b, o, rfl, hb, hi⟩ := hp h0
  exact ⟨b, o, c, rfl, h1, h2, h3, hb, hi⟩
attribute [irreducible] evC
end Go.Dam.Q
namespace Go.Proofs.YtlojecajonhmhaaGreatDoor
open Go Go.RowKit Go.Dam Go.Dam.Q
set_option linter.unusedVariables false
theorem meant_any : ∀ (f : Nat) (x : Ex) (xv v : Value) (n : Nat) (l : List Int) (w : World) (B : Nat), B ≤ w.heap.size → IsEx w B f xv x → faultN f x = 0 → IsFlat 3 w B v n l → ptCode n l = 0 →
    Calls Tryz.prog 9 #[xv, v] w (GivesM l n f x w)
  | 0, x, xv, v, n, l, w, B, hB, h, hf, _, _ => by rw [faultN_0] at hf; omega
  | f + 1, .mk k x0 y0 x1 y1 ww ps, xv, v, n, l, w, B, hB, h, hf, hp, h0 => by
    have HOk := headOk (fine_head hf)
    have a := HOk.k1
    have b := HOk.k5
    have IH : ∀ i, i < ps.length → ∀ pv, IsEx w B f pv (ps.getD i noEx) → ∀ W, Below w.heap.size w W → Calls Tryz.prog 9 #[pv, v] W (GivesM l n f (ps.getD i noEx) W) := fun i hi pv hpv W hb =>
      meant_any f _ pv v n l W B (Nat.le_trans hB hb.size) (hpv.below (hb.mono hB)) (fine_part hf hi) (hp.below (hb.mono hB)) h0
    rcases (show k = 1 ∨ k = 2 ∨ k = 3 ∨ k = 4 ∨ k = 5 by omega) with e | e | e | e | e
    · obtain rfl := e
      obtain ⟨A, c, rfl, _⟩ := h.open_
      exact meant_k1 f ps x0 y0 x1 y1 ww A _ c v n l w B hB hp h0
    · obtain rfl := e
      obtain ⟨A, c, rfl, _⟩ := h.open_
      exact meant_k2 f ps x0 y0 x1 y1 ww A _ c v n l w B hB hp h0
    · obtain rfl := e
      have h2 := HOk.two (.inl rfl)
      obtain ⟨b, o, c, rfl, h3, h4, h5, hb, hi⟩ := ex_parts h (by omega)
      exact meant_k3 f ps x0 y0 x1 y1 ww b o _ c v n l w B hB hp h0 h2 h3 h4 h5 (Lib.hid rfl) (by omega) (Lib.hid fun j hj => by
        obtain ⟨pv, q1, q2⟩ := hi j hj
        exact ⟨pv, q1, IH j hj pv q2⟩)
    · obtain rfl := e
      have h2 := HOk.two (.inr rfl)
      obtain ⟨b, o, c, rfl, h3, h4, h5, hb, hi⟩ := ex_parts h (by omega)
      exact meant_k4 f ps x0 y0 x1 y1 ww b o _ c v n l w B hB hp h0 h2 h3 h4 h5 (Lib.hid rfl) (by omega) (Lib.hid fun j hj => by
        obtain ⟨pv, q1, q2⟩ := hi j hj
        exact ⟨pv, q1, IH j hj pv q2⟩)
    · obtain rfl := e
      have h2 := HOk.one rfl
      obtain ⟨b, o, c, rfl, h3, h4, h5, hb, hi⟩ := ex_parts h (by omega)
      obtain ⟨pv, q1, q2⟩ := hi 0 (by omega)
      rw [Nat.zero_mul, Nat.add_zero] at q1
      exact meant_k5 f ps x0 y0 x1 y1 ww b o _ c v n l w B hB hp h0 (by omega) (Lib.hid h2) (by omega) pv q1 (Lib.hid (IH 0 (by omega) pv q2))
theorem refMeans_any : ∀ (f : Nat) (x : Ex) (xv : Value) (px py pw : Int) (w : World) (B : Nat), B ≤ w.heap.size → IsEx w B f xv x → faultN f x = 0 →
    Calls Tryz.prog 12 #[xv, .agg #[.int .i64 px, .int .i64 py, .int .i64 pw]] w fun e w' => e = .returned (.bool (meansN f x px py pw)) ∧ Below w.heap.size w w'
  | 0, x, xv, px, py, pw, w, B, hB, h, hf => by rw [faultN_0] at hf; omega
  | f + 1, .mk k x0 y0 x1 y1 ww ps, xv, px, py, pw, w, B, hB, h, hf => by
    have HOk := headOk (fine_head hf)
    have a := HOk.k1
    have b := HOk.k5
    have IH : ∀ i, i < ps.length → ∀ pv, IsEx w B f pv (ps.getD i noEx) → ∀ W, Below w.heap.size w W → Calls Tryz.prog 12 #[pv, .agg #[.int .i64 px, .int .i64 py, .int .i64 pw]] W fun e w' => e = .returned (.bool (meansN f (ps.getD i noEx) px py pw)) ∧ Below W.heap.size W w' := fun i hi pv hpv W hb =>
      refMeans_any f _ pv px py pw W B (Nat.le_trans hB hb.size) (hpv.below (hb.mono hB)) (fine_part hf hi)
    rcases (show k = 1 ∨ k = 2 ∨ k = 3 ∨ k = 4 ∨ k = 5 by omega) with e | e | e | e | e
    · obtain rfl := e
      obtain ⟨A, c, rfl, _⟩ := h.open_
      rw [means_in]
      exact refMeans_k1 x0 y0 x1 y1 ww px py pw A _ c w
    · obtain rfl := e
      obtain ⟨A, c, rfl, _⟩ := h.open_
      rw [means_heavy]
      exact refMeans_k2 x0 y0 x1 y1 ww px py pw A _ c w
    · obtain rfl := e
      have h2 := HOk.two (.inl rfl)
      obtain ⟨b, o, c, rfl, h3, h4, h5, hb, hi⟩ := ex_parts h (by omega)
      rw [means_and, hold_all]
      exact refMeans_k3 x0 y0 x1 y1 ww px py pw _ c w b o (by omega) h3 (by omega) (holdN f ps px py pw) (holdN_0 _ _ _ _ _) (holdN_le _ _ _ _ _) (fun j hj => by
        obtain ⟨pv, q1, q2⟩ := hi j hj
        exact ⟨pv, _, q1, Lib.hid (IH j hj pv q2), holdN_s hj⟩)
    · obtain rfl := e
      have h2 := HOk.two (.inr rfl)
      obtain ⟨b, o, c, rfl, h3, h4, h5, hb, hi⟩ := ex_parts h (by omega)
      rw [means_or, hold_any]
      exact refMeans_k4 x0 y0 x1 y1 ww px py pw _ c w b o (by omega) h3 (by omega) (holdN f ps px py pw) (holdN_0 _ _ _ _ _) (holdN_le _ _ _ _ _) (fun j hj => by
        obtain ⟨pv, q1, q2⟩ := hi j hj
        exact ⟨pv, _, q1, Lib.hid (IH j hj pv q2), holdN_s hj⟩)
    · obtain rfl := e
      have h2 := HOk.one rfl
      obtain ⟨b, o, c, rfl, h3, h4, h5, hb, hi⟩ := ex_parts h (by omega)
      obtain ⟨pv, q1, q2⟩ := hi 0 (by omega)
      rw [Nat.zero_mul, Nat.add_zero] at q1
      rw [means_not h2]
      exact refMeans_k5 x0 y0 x1 y1 ww px py pw _ c w b o (by omega) (by omega) pv q1 _ (Lib.hid (IH 0 (by omega) pv q2))
set_option maxRecDepth 100000 in
set_option maxHeartbeats 8000000 in
theorem queryEval_any (x : Ex) (xv v : Value) (n : Nat) (l : List Int) (w : World) (B : Nat) (hB : B ≤ w.heap.size) (hx : IsEx w B 8 xv x) (h : IsFlat 3 w B v n l) (hsz : 48 * sizeN 8 x ≤ 140737488355328) (hT : Tab w) :
    Calls Tryz.prog 4 #[xv, v] w fun e w' => (∃ u r, e = .returned (.tuple #[u, .int .i64 (evC n l x)]) ∧ EvalR n l x r ∧ IsInts .i64 w' w'.heap.size u r) ∧ Below w.heap.size w w' := by
  have HC := Lib.hid fun W (hb : Below w.heap.size w W) => queryCheck_any x xv W B (Nat.le_trans hB hb.size) (hx.below (hb.mono hB)) hsz (hT.below hb)
  have HP := Lib.hid fun W (hb : Below w.heap.size w W) => gridCheck_any v n l W B (Nat.le_trans hB hb.size) (h.below (hb.mono hB))
  have HM := Lib.hid fun (hc : checkN x = 0) (h0 : ptCode n l = 0) => fun W (hb : Below w.heap.size w W) => meant_any 8 x xv v n l W B (Nat.le_trans hB hb.size) (hx.below (hb.mono hB)) (check_zero hc) (h.below (hb.mono hB)) h0
  obtain ⟨k, x0, y0, x1, y1, ww, EA, en, ec, rfl⟩ := exV_of hx
  obtain ⟨C, hC⟩ : ∃ C, C = checkN x := ⟨_, rfl⟩
  obtain ⟨D, hD⟩ : ∃ D, D = ptCode n l := ⟨_, rfl⟩
  obtain ⟨E, hE⟩ : ∃ E, E = evC n l x := ⟨_, rfl⟩
  have HE0 : Hid (C ≠ 0 → E = C) := Lib.hid fun h => by rw [hE, evC_bad (by rw [← hC]; exact h), hC]
  have HE1 : Hid (C = 0 → E = D) := Lib.hid fun h => by rw [hE, evC_ok (by rw [← hC]; exact h), hD]
  have HR0 : Hid (E ≠ 0 → EvalR n l x []) := Lib.hid fun h => .inr ⟨by rw [← hE]; exact h, rfl⟩
  have HR1 : Hid (E = 0 → EvalR n l x (natL (meant l n x))) := Lib.hid fun h => .inl ⟨by rw [← hE]; exact h, rfl⟩
  have HD150 : Hid (D = 0 → n ≤ 150) := Lib.hid fun h => (ptCode_ok (by rw [← hD]; exact h)).1
  rw [← hC] at HC HM
  rw [← hD] at HP HM
  rw [← hE]
  clear hC hD hE hx hsz
  obtain ⟨A, c, rfl, hc, hm, hn, hl, hr, hw⟩ := h
  have HR := Lib.hid hr
  clear hr hw hm
  unfold exV at *
  have HK := Lib.hid (Blk.new w 26 #[.int .i64 k, .int .i64 x0, .int .i64 y0, .int .i64 x1, .int .i64 y1, .int .i64 ww, .slice EA en ec])
  have HB0 := Lib.hid ((Below.refl w.heap.size w).alloc (Nat.le_refl _) (.cells #[.int .i64 k, .int .i64 x0, .int .i64 y0, .int .i64 x1, .int .i64 y1, .int .i64 ww, .slice EA en ec] 26))
  by_cases hc0 : C = 0
  rotate_left
  · have t0 : (C != 0) = true := bne_iff_ne.2 hc0
    have HEc := Lib.hid (HE0.out hc0)
    have HRc := Lib.hid (HR0.out (by rw [HEc.out]; exact hc0))
    clear HM hl HP
    go_enter Tryz.func4, Tryz.ntmps4
    go_wp2_with (go_at_call 7; refine (HC.out _ HB0.out).mono ?_; rintro e w1 ⟨rfl, hb1⟩)
    go_ret2
    exact ⟨⟨_, [], by rw [HEc.out]; rfl, HRc.out, isInts_nil _ _ _⟩, HB0.out.trans (hb1.mono (by simp))⟩
  subst hc0
  by_cases hd0 : D = 0
  rotate_left
  · have t0 : (D != 0) = true := bne_iff_ne.2 hd0
    have HEc := Lib.hid (HE1.out rfl)
    have HRc := Lib.hid (HR0.out (by rw [HEc.out]; exact hd0))
    clear HM hl
    go_enter Tryz.func4, Tryz.ntmps4
    go_wp2_with (first
      | (go_at_call 7; refine (HC.out _ HB0.out).mono ?_; rintro e w1 ⟨rfl, hb1⟩; have HB1 := Lib.hid (HB0.out.trans (hb1.mono (by simp))); clear hb1)
      | (go_at_call 8; refine (HP.out _ HB1.out).mono ?_; rintro e w2 ⟨rfl, hb2⟩))
    go_ret2
    exact ⟨⟨_, [], by rw [HEc.out]; rfl, HRc.out, isInts_nil _ _ _⟩, HB1.out.trans (hb2.mono HB1.out.size)⟩
  subst hd0
  have HEc := Lib.hid (HE1.out rfl)
  have HRc := Lib.hid (HR1.out HEc.out)
  have hn1 := HD150.out rfl
  have HMm := Lib.hid (HM.out rfl rfl)
  clear HE0 HE1 HR0 HR1 HD150 HM
  go_enter Tryz.func4, Tryz.ntmps4
  go_wp2_with (first
    | (go_at_call 7; refine (HC.out _ HB0.out).mono ?_; rintro e w1 ⟨rfl, hb1⟩; have HB1 := Lib.hid (HB0.out.trans (hb1.mono (by simp))); have HK1 := Lib.hid (HK.out.below hb1 (by simp)); clear hb1)
    | (go_at_call 8; refine (HP.out _ HB1.out).mono ?_; rintro e w2 ⟨rfl, hb2⟩; have HB2 := Lib.hid (HB1.out.trans (hb2.mono HB1.out.size)); have HK2 := Lib.hid (HK1.out.below hb2 HK1.out.lt); have c0 := (HK2.out.cell 0).trans rfl; have c1 := (HK2.out.cell 1).trans rfl; have c2 := (HK2.out.cell 2).trans rfl; have c3 := (HK2.out.cell 3).trans rfl; have c4 := (HK2.out.cell 4).trans rfl; have c5 := (HK2.out.cell 5).trans rfl; have c6 := (HK2.out.cell 6).trans rfl; clear hb2)
    | (go_at_call 9; refine (HMm.out _ HB2.out).mono ?_; rintro e w3 ⟨⟨g, bs, hg, rfl, hrm, hbb⟩, hb3⟩; have HM3 := Lib.hid hrm; have HBb := Lib.hid hbb; have HB3 := Lib.hid (HB2.out.trans (hb3.mono HB2.out.size)); clear hrm hbb hb3))
  clear c0 c1 c2 c3 c4 c5 c6 hl
  go_loopw [8, 25] (fun ov iv wr => ∃ i : Nat, i ≤ n ∧ iv = .int .i64 i ∧ Hid (wr.ownsRow w3.heap.size 3 1 ov (meant l i x).length ((natL (meant l i x)).map (Value.int .i64))) ∧ Hid (Below w3.heap.size w3 wr)) (fun _ iv _ => n - (intOf iv).toNat)
  case atStart => exact ⟨0, by omega, rfl, Lib.hid (by rw [meant_0]; exact World.ownsRow_nil _ _ _ _), Lib.hid (Below.refl _ _)⟩
  case round =>
    obtain ⟨wo, rfl⟩ : ∃ wo : World, wo = wr := ⟨_, rfl⟩
    obtain ⟨i, hi, rfl, HO, HB⟩ := hrel
    have hzo := HB.out.size
    have hln := meant_le l i x
    have HSt := Lib.hid (meant_step l x i)
    obtain ⟨fl, hfl⟩ : ∃ f, f = meant l i x := ⟨_, rfl⟩
    rw [← hfl] at HO hln HSt
    have HFl := Lib.hid hfl
    obtain ⟨A2, c2, rfl⟩ := own_shape HO.out
    clear hfl
    by_cases hlt : i < n
    · have t1 : decide ((i : Int) < (n : Int)) = true := decide_eq_true (by omega)
      have hgl := HBb.out.lt
      have b0 := (HB.out.cell (p := ⟨g, i, none⟩) hgl).trans (HBb.out.cell (i := i) (by rw [HM3.out.1]; exact hlt))
      rw [HM3.out.2 i hlt] at b0
      have i1 : (i : Int) < (n : Int) := by omega
      have w1 : IntKind.i64.wrap ((i : Int) + 1) = (i : Int) + 1 := by rw [IntKind.wrap_i64]; omega
      cases hm : meansAt l 8 x i with
      | true =>
        rw [hm, if_pos rfl] at HSt
        rw [hm] at b0
        clear hm
        go_wp2_with (at_builtin; refine wpList_pushD el_int rfl _ _ rfl w3.heap.size _ fl.length _ (HO.out.alloc _) rfl wo.heap.size 1 _ rfl (new_cell rfl) rfl (by omega) (by omega) (by simp; omega) ?_; intro v2 w4 hown2 hg2 hl2; obtain ⟨A3, c3, rfl⟩ := own_shape hown2)
        go_roundw
        case rel => exact ⟨i + 1, by omega, by go_num, Lib.hid (by have e := congrArg List.length HSt.out; rw [List.length_append, natL_len, natL_len] at e; rw [HSt.out, e, List.map_append]; exact hown2), Lib.hid (below_push (HB.out.alloc (by omega) _) (HO.out.alloc _) (Nat.le_refl _) (by simp; omega) hg2)⟩
        case measure => simp [intOf]; omega
      | false =>
        rw [hm, if_neg (by decide), List.append_nil] at HSt
        rw [hm] at b0
        clear hm
        go_wp2_with fail
        go_roundw
        case rel => exact ⟨i + 1, by omega, by go_num, Lib.hid (by have e := congrArg List.length HSt.out; rw [natL_len, natL_len] at e; rw [HSt.out, e]; exact HO.out), HB⟩
        case measure => simp [intOf]; omega
    · obtain rfl : i = n := by omega
      have t1 : decide ((i : Int) < (i : Int)) = false := decide_eq_false (by omega)
      have HI := Lib.hid (own_ints (by have := HO.out; rw [← natL_len fl] at this; exact this) (by rw [natL_len]; omega) (by rw [HFl.out]; exact meant_wf hn1))
      rw [natL_len] at HI
      rw [← HFl.out] at HRc
      go_wp2_with fail
      go_ret2
      exact ⟨⟨_, natL fl, by rw [HEc.out]; rfl, HRc.out, HI.out⟩, HB3.out.trans (HB.out.mono HB3.out.size)⟩
set_option maxRecDepth 100000 in
set_option maxHeartbeats 8000000 in
theorem refEval_any (x : Ex) (xv v : Value) (n : Nat) (l : List Int) (w : World) (B : Nat) (hB : B ≤ w.heap.size) (hx : IsEx w B 8 xv x) (h : IsFlat 3 w B v n l) (hsz : 48 * sizeN 8 x ≤ 140737488355328) :
    Calls Tryz.prog 5 #[xv, v] w fun e w' => (∃ u r, e = .returned (.tuple #[u, .int .i64 (evC n l x)]) ∧ EvalR n l x r ∧ IsInts .i64 w' w'.heap.size u r) ∧ Below w.heap.size w w' := by
  have HC := Lib.hid fun W (hb : Below w.heap.size w W) => refCheck_any x xv W B (Nat.le_trans hB hb.size) (hx.below (hb.mono hB)) hsz
  have HP := Lib.hid fun W (hb : Below w.heap.size w W) => pointsFault_any v n l W B (Nat.le_trans hB hb.size) (h.below (hb.mono hB))
  have HM := Lib.hid fun (hc : checkN x = 0) (h0 : ptCode n l = 0) => fun px py pw W (hb : Below w.heap.size w W) => refMeans_any 8 x xv px py pw W B (Nat.le_trans hB hb.size) (hx.below (hb.mono hB)) (check_zero hc)
  obtain ⟨k, x0, y0, x1, y1, ww, EA, en, ec, rfl⟩ := exV_of hx
  obtain ⟨C, hC⟩ : ∃ C, C = checkN x := ⟨_, rfl⟩
  obtain ⟨D, hD⟩ : ∃ D, D = ptCode n l := ⟨_, rfl⟩
  obtain ⟨E, hE⟩ : ∃ E, E = evC n l x := ⟨_, rfl⟩
  have HE0 : Hid (C ≠ 0 → E = C) := Lib.hid fun h => by rw [hE, evC_bad (by rw [← hC]; exact h), hC]
  have HE1 : Hid (C = 0 → E = D) := Lib.hid fun h => by rw [hE, evC_ok (by rw [← hC]; exact h), hD]
  have HR0 : Hid (E ≠ 0 → EvalR n l x []) := Lib.hid fun h => .inr ⟨by rw [← hE]; exact h, rfl⟩
  have HR1 : Hid (E = 0 → EvalR n l x (natL (meant l n x))) := Lib.hid fun h => .inl ⟨by rw [← hE]; exact h, rfl⟩
  have HD150 : Hid (D = 0 → n ≤ 150) := Lib.hid fun h => (ptCode_ok (by rw [← hD]; exact h)).1
  rw [← hC] at HC HM
  rw [← hD] at HP HM
  rw [← hE]
  clear hC hD hE hx hsz
  obtain ⟨A, c, rfl, hc, hm, hn, hl, hr, hw⟩ := h
  have HR := Lib.hid hr
  clear hr hw hm
  unfold exV at *
  have HK := Lib.hid (Blk.new w 26 #[.int .i64 k, .int .i64 x0, .int .i64 y0, .int .i64 x1, .int .i64 y1, .int .i64 ww, .slice EA en ec])
  have HB0 := Lib.hid ((Below.refl w.heap.size w).alloc (Nat.le_refl _) (.cells #[.int .i64 k, .int .i64 x0, .int .i64 y0, .int .i64 x1, .int .i64 y1, .int .i64 ww, .slice EA en ec] 26))
  by_cases hc0 : C = 0
  rotate_left
  · have t0 : (C != 0) = true := bne_iff_ne.2 hc0
    have HEc := Lib.hid (HE0.out hc0)
    have HRc := Lib.hid (HR0.out (by rw [HEc.out]; exact hc0))
    clear HM hl HP
    go_enter Tryz.func5, Tryz.ntmps5
    go_wp2_with (go_at_call 10; refine (HC.out _ HB0.out).mono ?_; rintro e w1 ⟨rfl, hb1⟩)
    go_ret2
    exact ⟨⟨_, [], by rw [HEc.out]; rfl, HRc.out, isInts_nil _ _ _⟩, HB0.out.trans (hb1.mono (by simp))⟩
  subst hc0
  by_cases hd0 : D = 0
  rotate_left
  · have t0 : (D != 0) = true := bne_iff_ne.2 hd0
    have HEc := Lib.hid (HE1.out rfl)
    have HRc := Lib.hid (HR0.out (by rw [HEc.out]; exact hd0))
    clear HM hl
    go_enter Tryz.func5, Tryz.ntmps5
    go_wp2_with (first
      | (go_at_call 10; refine (HC.out _ HB0.out).mono ?_; rintro e w1 ⟨rfl, hb1⟩; have HB1 := Lib.hid (HB0.out.trans (hb1.mono (by simp))); clear hb1)
      | (go_at_call 11; refine (HP.out _ HB1.out).mono ?_; rintro e w2 ⟨rfl, hb2⟩))
    go_ret2
    exact ⟨⟨_, [], by rw [HEc.out]; rfl, HRc.out, isInts_nil _ _ _⟩, HB1.out.trans (hb2.mono HB1.out.size)⟩
  subst hd0
  have HEc := Lib.hid (HE1.out rfl)
  have HRc := Lib.hid (HR1.out HEc.out)
  have hn1 := HD150.out rfl
  have HMm := Lib.hid (HM.out rfl rfl)
  clear HE0 HE1 HR0 HR1 HD150 HM
  go_enter Tryz.func5, Tryz.ntmps5
  go_wp2_with (first
    | (go_at_call 10; refine (HC.out _ HB0.out).mono ?_; rintro e w1 ⟨rfl, hb1⟩; have HB1 := Lib.hid (HB0.out.trans (hb1.mono (by simp))); have HK1 := Lib.hid (HK.out.below hb1 (by simp)); clear hb1)
    | (go_at_call 11; refine (HP.out _ HB1.out).mono ?_; rintro e w2 ⟨rfl, hb2⟩; have HB2 := Lib.hid (HB1.out.trans (hb2.mono HB1.out.size)); have HK2 := Lib.hid (HK1.out.below hb2 HK1.out.lt); clear hb2))
  go_loopw [8, 23] (fun ov iv wr => ∃ i : Nat, i ≤ n ∧ iv = .int .i64 i ∧ Hid (wr.ownsRow w2.heap.size 3 1 ov (meant l i x).length ((natL (meant l i x)).map (Value.int .i64))) ∧ Hid (Below w2.heap.size w2 wr)) (fun _ iv _ => n - (intOf iv).toNat)
  case atStart => exact ⟨0, by omega, rfl, Lib.hid (by rw [meant_0]; exact World.ownsRow_nil _ _ _ _), Lib.hid (Below.refl _ _)⟩
  case round =>
    obtain ⟨wo, rfl⟩ : ∃ wo : World, wo = wr := ⟨_, rfl⟩
    obtain ⟨i, hi, rfl, HO, HB⟩ := hrel
    have hzo := HB.out.size
    have hz2 := HB2.out.size
    have hln := meant_le l i x
    have HSt := Lib.hid (meant_step l x i)
    obtain ⟨fl, hfl⟩ : ∃ f, f = meant l i x := ⟨_, rfl⟩
    rw [← hfl] at HO hln HSt
    have HFl := Lib.hid hfl
    obtain ⟨A2, c2, rfl⟩ := own_shape HO.out
    clear hfl
    by_cases hlt : i < n
    · have t1 : decide ((i : Int) < (n : Int)) = true := decide_eq_true (by omega)
      obtain ⟨bk, off, rfl, hbk, hcs⟩ := flat_cells HR.out hl (by omega) (by omega)
      have HBw : Hid (Below w.heap.size w wo) := Lib.hid (HB2.out.trans (HB.out.mono hz2))
      have cell : ∀ q, q < n * 3 → wo.cell? ⟨bk, off + q, none⟩ = some (.int .i64 (l.getD q 0)) := fun q hq => (HBw.out.cell (p := ⟨bk, off + q, none⟩) (by show bk < _; omega)).trans (hcs q hq)
      have y0' := cell (i * 3) (by omega)
      have y1' := cell (i * 3 + 1) (by omega)
      have y2' := cell (i * 3 + 2) (by omega)
      rw [← Nat.add_assoc] at y1' y2'
      have HMi : Hid (∀ W, Below w.heap.size w W → Calls Tryz.prog 12 #[.agg #[.int .i64 k, .int .i64 x0, .int .i64 y0, .int .i64 x1, .int .i64 y1, .int .i64 ww, .slice EA en ec], .agg #[.int .i64 (l.getD (i * 3) 0), .int .i64 (l.getD (i * 3 + 1) 0), .int .i64 (l.getD (i * 3 + 2) 0)]] W fun e w' => e = .returned (.bool (meansAt l 8 x i)) ∧ Below W.heap.size W w') := Lib.hid fun W hb => by
        have hq := HMm.out (l.getD (i * 3) 0) (l.getD (i * 3 + 1) 0) (l.getD (i * 3 + 2) 0) W hb
        with_unfolding_all exact hq
      generalize l.getD (i * 3) 0 = px at *
      generalize l.getD (i * 3 + 1) 0 = py at *
      generalize l.getD (i * 3 + 2) 0 = pw at *
      have i1 : (i : Int) < (n : Int) := by omega
      have w1 : IntKind.i64.wrap ((i : Int) + 1) = (i : Int) + 1 := by rw [IntKind.wrap_i64]; omega
      have HKo := Lib.hid (HK2.out.below HB.out HK2.out.lt)
      have s0 := fun ob => ((HKo.out.alloc ob).cell 0).trans rfl
      have s1 := fun ob => ((HKo.out.alloc ob).cell 1).trans rfl
      have s2 := fun ob => ((HKo.out.alloc ob).cell 2).trans rfl
      have s3 := fun ob => ((HKo.out.alloc ob).cell 3).trans rfl
      have s4 := fun ob => ((HKo.out.alloc ob).cell 4).trans rfl
      have s5 := fun ob => ((HKo.out.alloc ob).cell 5).trans rfl
      have s6 := fun ob => ((HKo.out.alloc ob).cell 6).trans rfl
      clear cell hcs
      cases hm : meansAt l 8 x i with
      | true =>
        rw [hm, if_pos rfl] at HSt
        rw [hm] at HMi
        clear hm
        go_wp2_with (first
          | (go_at_call 12; refine (HMi.out _ (HBw.out.alloc HBw.out.size _)).mono ?_; rintro e w3 ⟨rfl, hb3⟩; have hz3 := hb3.size; simp only [World.size_alloc] at hz3; have HBi := Lib.hid (((Below.refl wo.heap.size wo).alloc (Nat.le_refl _) (.cells #[.int .i64 px, .int .i64 py, .int .i64 pw] 39)).trans (hb3.mono (by simp))); have HO4 := Lib.hid (own_size HO.out HBi.out); clear hb3)
          | (at_builtin; refine wpList_pushD el_int rfl _ _ rfl w2.heap.size _ fl.length _ (HO4.out.alloc _) rfl w3.heap.size 1 _ rfl (new_cell rfl) rfl (by omega) (by omega) (by simp; omega) ?_; intro v2 w4 hown2 hg2 hl2; obtain ⟨A3, c3, rfl⟩ := own_shape hown2))
        go_roundw
        case rel => exact ⟨i + 1, by omega, by go_num, Lib.hid (by have e := congrArg List.length HSt.out; rw [List.length_append, natL_len, natL_len] at e; rw [HSt.out, e, List.map_append]; exact hown2), Lib.hid (below_push ((HB.out.trans (HBi.out.mono hzo)).alloc (by omega) _) (HO4.out.alloc _) (Nat.le_refl _) (by simp; omega) hg2)⟩
        case measure => simp [intOf]; omega
      | false =>
        rw [hm, if_neg (by decide), List.append_nil] at HSt
        rw [hm] at HMi
        clear hm
        go_wp2_with (go_at_call 12; refine (HMi.out _ (HBw.out.alloc HBw.out.size _)).mono ?_; rintro e w3 ⟨rfl, hb3⟩; have HBi := Lib.hid (((Below.refl wo.heap.size wo).alloc (Nat.le_refl _) (.cells #[.int .i64 px, .int .i64 py, .int .i64 pw] 39)).trans (hb3.mono (by simp))); have HO4 := Lib.hid (own_size HO.out HBi.out); clear hb3)
        go_roundw
        case rel => exact ⟨i + 1, by omega, by go_num, Lib.hid (by have e := congrArg List.length HSt.out; rw [natL_len, natL_len] at e; rw [HSt.out, e]; exact HO4.out), Lib.hid (HB.out.trans (HBi.out.mono hzo))⟩
        case measure => simp [intOf]; omega
    · obtain rfl : i = n := by omega
      have t1 : decide ((i : Int) < (i : Int)) = false := decide_eq_false (by omega)
      have HI := Lib.hid (own_ints (by have := HO.out; rw [← natL_len fl] at this; exact this) (by rw [natL_len]; omega) (by rw [HFl.out]; exact meant_wf hn1))
      rw [natL_len] at HI
      rw [← HFl.out] at HRc
      go_wp2_with fail
      go_ret2
      exact ⟨⟨_, natL fl, by rw [HEc.out]; rfl, HRc.out, HI.out⟩, HB2.out.trans (HB.out.mono hz2)⟩
end Go.Proofs.YtlojecajonhmhaaGreatDoor
