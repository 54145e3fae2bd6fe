/-
  Contract of the reference's RmqMake. Conditions: the argument is a list of ints.
-/
import Derived.Test.YtiflelifkjfpdaaRmqMake
namespace Go.Proofs.Ytiflelifkjfpdaa
open Go Go.RowKit Go.Dam
set_option linter.unusedVariables false
set_option maxHeartbeats 4000000 in
theorem refRmqMake_any (v : Value) (l : List Int) (ls : List (List Int)) (cc : Int) (w : World) (B : Nat) (hB : B ≤ w.heap.size) (h : IsInts .i64 w B v l) (hR : RmqMakeR l ls cc) :
    Calls Try.prog 16 #[v] w (GivesRows ls cc w) := by
  have HT := Lib.hid fun a b W (hb : Below w.heap.size w W) => topOf_any v l a b W B (h.below (hb.mono hB))
  obtain ⟨A, c, rfl, hc, hm, hn, hr, hw⟩ := h
  rcases hR with ⟨h1, rfl, rfl⟩ | ⟨h1, rfl, rfl⟩
  · clear hr hw
    go_enter Try.func16, Try.ntmps16
    go_wp2_with fail
    go_ret2
    exact ⟨_, rfl, isRows_nil _ _, Below.refl _ _⟩
  · clear hr hw
    go_enter Try.func16, Try.ntmps16
    go_wp2_with fail
    go_loopw [4, 5] (fun ov nv wr => ∃ j : Nat, ∃ vs : List Value, nv = .int .i64 j ∧ j ≤ p2s l.length ∧ vs.length = j ∧ wr.ownsRow w.heap.size 22 1 ov j vs ∧ OwnRows 3 wr w.heap.size vs (rmqRows l j) ∧ Below w.heap.size w wr) (fun _ nv _ => p2s l.length - (intOf nv).toNat)
    case atStart => exact ⟨0, [], rfl, by omega, rfl, World.ownsRow_nil _ _ _ _, by rw [rmqRows_0]; exact OwnRows.nil _ _ _, Below.refl _ _⟩
    case round =>
      obtain ⟨wo, rfl⟩ : ∃ wo : World, wo = wr := ⟨_, rfl⟩
      obtain ⟨j, vs, rfl, hj, hvs, hout, hrows, hbel⟩ := hrel
      obtain ⟨A1, c1, rfl⟩ := own_shape hout
      have HO := Lib.hid hout
      have HR := Lib.hid hrows
      have HB := Lib.hid hbel
      have hz := hbel.size
      have hiff := p2s_iff (n := l.length) (j := j) (by omega)
      have hpos := p2_pos j
      have hjp := p2_gt j
      have hple := p2s_62 (n := l.length) (by omega)
      have hsh' := p2_int j
      by_cases hlt : p2 j ≤ l.length
      · have hjl : j < p2s l.length := hiff.2 hlt
        have HAll := Lib.hid (rmqPart_all l j)
        have HRS := Lib.hid (rmqRows_succ l j)
        have H0 := Lib.hid (rmqPart_0 l j)
        have HSucc := Lib.hid (rmqPart_succ l j)
        have hwf := rmqRow_length l j
        obtain ⟨Q, hQ⟩ : ∃ Q, p2 j = Q := ⟨_, rfl⟩
        rw [hQ] at hsh' hpos hjp hlt HAll HSucc hwf
        have HRL := Lib.hid hwf
        clear hout hrows hbel hiff hQ hwf
        go_wp2_with fail
        go_loopw [6, 7] (fun ov iv wr => ∃ i : Nat, i + Q ≤ l.length + 1 ∧ iv = .int .i64 i ∧ wr.ownsRow wo.heap.size 3 1 ov i ((rmqPart l j i).map (Value.int .i64)) ∧ Below wo.heap.size wo wr) (fun _ iv _ => l.length + 1 - (intOf iv).toNat)
        case atStart => exact ⟨0, by omega, rfl, by rw [H0.out]; exact World.ownsRow_nil _ _ _ _, Below.refl _ _⟩
        case round =>
          obtain ⟨wi, rfl⟩ : ∃ wi : World, wi = wr := ⟨_, rfl⟩
          obtain ⟨i, hi, rfl, hown, hbi⟩ := hrel
          obtain ⟨A2, c2, rfl⟩ := own_shape hown
          have HO2 := Lib.hid hown
          have HB2 := Lib.hid hbi
          have hz2 := hbi.size
          clear hown hbi
          by_cases hlt2 : i + Q ≤ l.length
          · have HC := Lib.hid (HT.out i (i + Q - 1) wi (HB.out.trans (HB2.out.mono hz)) (by omega) (by omega))
            have hsub : (i : Int) + (Q : Int) - 1 = ((i + Q - 1 : Nat) : Int) := by omega
            rw [show i + Q - 1 - i = Q - 1 from by omega, ← hsub] at HC
            have hs := HSucc.out i
            have tb := topF_bd (fun k => l.getD k 0) i (Q - 1)
            generalize topF (fun k => l.getD k 0) i (Q - 1) = t at *
            have HS := Lib.hid hs
            clear hs hsub
            go_wp2_with (first
              | (go_at_call 41; refine (HC.out).mono ?_; rintro e w1 ⟨rfl, hd1⟩; have HO3 : Hid (w1.ownsRow wo.heap.size 3 1 (.slice A2 i c2) i ((rmqPart l j i).map (Value.int .i64))) := (by obtain ⟨m, hm⟩ := hd1; rw [← hm]; exact HO2); have hz3 : wo.heap.size ≤ w1.heap.size := (by rw [hd1.size]; exact hz2); have HB3 := Lib.hid (HB2.out.trans (hd1.below _)))
              | (at_builtin; refine wpList_push el_int rfl (.tmp 27) (.tmp 36) rfl wo.heap.size _ i _ (HO3.out.alloc _) rfl w1.heap.size 1 _ rfl (by simp; rfl) rfl (by omega) (by omega) (by simp; omega) ?_; intro v' w2 hown2 hg2))
            refine ⟨⟨i + 1, by omega, by go_num, ?_, below_push (HB3.out.alloc hz3 _) (HO3.out.alloc _) (Nat.le_refl _) (by simp; omega) hg2⟩, by simp [intOf]; omega⟩
            rw [HS.out, List.map_append]; exact hown2
          · have hie : l.length + 1 - Q = i := by omega
            have HAll2 := HAll.out
            rw [hie] at HAll2 HRL
            have HO3 := HO2.out
            rw [HAll2] at HO3
            have HO3 := Lib.hid HO3
            clear HAll2 hie
            have t0 : decide ((i : Int) + (Q : Int) ≤ (l.length : Int)) = false := by rw [decide_eq_false_iff_not]; omega
            go_wp2_with (at_builtin; refine wpList_push el_rows rfl (.tmp 38) (.tmp 40) rfl w.heap.size _ j _ ((own_size HO.out HB2.out).alloc _) rfl wi.heap.size 1 _ rfl (by simp; rfl) rfl (by omega) (by omega) (by simp; omega) ?_; intro v' w2 hown2 hg2)
            have h1 := ((OwnRows.push (HR.out.size HB2.out) (u := .slice A2 i c2) (l := rmqRow l j) (by rw [HRL.out]; exact own_base HO3.out hz)).alloc (.cells #[.slice A2 i c2] 22)).grown ((own_size HO.out HB2.out).alloc _) (by decide) hg2
            refine ⟨⟨j + 1, vs ++ [.slice A2 i c2], by go_num, by omega, by simp [hvs], hown2, by rw [HRS.out]; exact h1, below_push ((HB.out.trans (HB2.out.mono hz)).alloc (by omega) _) ((own_size HO.out HB2.out).alloc _) (Nat.le_refl _) (by simp; omega) hg2⟩, by simp [intOf]; omega⟩
      · have hje : j = p2s l.length := by
          have : ¬ j < p2s l.length := fun h => hlt (hiff.1 h)
          omega
        have hf := rows_of_own hrows (by rw [rmqRows_length]; exact hout) (by rw [rmqRows_length]; omega) (rmqRows_wf (by omega))
        have HF := Lib.hid hf
        have hQb := p2_small (j := j) (by omega)
        have hpl : j ≤ 62 := by omega
        have HJ := Lib.hid hje
        generalize p2 j = Q at *
        have hlt' : l.length < Q := by omega
        clear hout hrows hbel hiff hf hlt hje hj hple
        go_wp2_with fail
        go_ret2
        exact ⟨_, rfl, by rw [← HJ.out]; exact HF.out, HB.out⟩
end Go.Proofs.Ytiflelifkjfpdaa
