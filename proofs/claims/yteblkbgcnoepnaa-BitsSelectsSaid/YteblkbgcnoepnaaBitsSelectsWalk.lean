/-
  Contract of the reference's BitsSelect and the walk of the law BitsSelects: both answer the same place and the same code. Conditions: the row can be read as data.
-/
import Derived.Test.YteblkbgcnoepnaaBools
import Derived.Test.YteblkbgcnoepnaaBitsSelect
namespace Go.Proofs.Yteblkbgcnoepnaa
open Go Go.RowKit Go.Dam
set_option linter.unusedVariables false

set_option maxHeartbeats 1000000 in
theorem refSelect_any (v : Value) (n k : Int) (one : Bool) (ws : List Nat) (r cc : Int) (w : World) (B : Nat) (hB : B ≤ w.heap.size) (h : IsBits w B v n ws) (hk64 : I64 k) (hR : BSelR n ws one k r cc) :
    Calls Try.prog 18 #[v, .bool one, .int .i64 k] w fun e w' => e = .returned (.tuple #[.int .i64 r, .int .i64 cc]) ∧ Below w.heap.size w w' := by
  obtain ⟨s, rfl, hs⟩ : ∃ s, v = .agg #[.int .i64 n, s] ∧ IsWords w B s ws := by
    obtain ⟨s, e, _, hs⟩ := h
    exact ⟨s, e, hs⟩
  have HH := Lib.hid h
  clear h hs
  unfold I64 at hk64
  rcases hR with ⟨hm, rfl, rfl⟩ | ⟨hm, hi, rfl, rfl⟩ | ⟨hm, h1, hS⟩
  · go_enter Try.func18, Try.ntmps18
    go_wp2_with (go_at_call 45; refine (refMay_any _ n ws _ B (box_le hB) (HH.out.below ((Below.refl _ _).alloc hB _))).mono ?_; rintro e w1 ⟨rfl, hb⟩)
    go_ret2
    exact ⟨rfl, below_box hb⟩
  · go_enter Try.func18, Try.ntmps18
    go_wp2_with (go_at_call 45; refine (refMay_any _ n ws _ B (box_le hB) (HH.out.below ((Below.refl _ _).alloc hB _))).mono ?_; rintro e w1 ⟨rfl, hb⟩; obtain ⟨k0, k1⟩ := box2 hb)
    go_ret2
    exact ⟨rfl, below_box hb⟩
  · have h0 := (may_facts hm).1
    have h4 := (may_facts hm).2.1
    obtain ⟨k, rfl⟩ := Int.eq_ofNat_of_zero_le h1
    obtain ⟨m, rfl⟩ := Int.eq_ofNat_of_zero_le h0
    rw [Int.toNat_natCast, Int.toNat_natCast] at hS
    have hm4 : m ≤ 4096 := by omega
    have HG := Lib.hid fun j hj => rowBits_get ws m j hj
    have hlen := rowBits_length ws m
    have HS := Lib.hid hS
    clear hS
    go_enter Try.func18, Try.ntmps18
    go_wp2_with (first
      | (go_at_call 45; refine (refMay_any _ m ws _ B (box_le hB) (HH.out.below ((Below.refl _ _).alloc hB _))).mono ?_; rintro e w1 ⟨rfl, hb⟩; obtain ⟨k0, k1⟩ := box2 hb; have hs1 := size_box hb; have HB := Lib.hid hb; clear hb)
      | (go_at_call 46; refine (bools_any _ m ws _ B (by omega) (HH.out.below ((below_box HB.out).mono hB)) hm).mono ?_; rintro e w2 ⟨v2, rfl, ⟨A2, c2, rfl, hc2, hcm2, hl2, hr2⟩, hb2⟩; have HAT := Lib.hid fun (hp : 0 < m) => bools_at hr2 (by rw [hlen]; exact hp); rw [hlen] at hc2 ⊢; clear hr2))
    go_loop [2, 18] (fun kv iv => ∃ q : Nat, q ≤ m ∧ iv = .int .i64 q ∧ (∃ d : Nat, kv = .int .i64 d ∧ d + cntB ws one q = k)) (fun _ iv => m - (intOf iv).toNat)
    case atStart => exact ⟨0, by omega, rfl, ⟨k, rfl, by rw [cntB_0]; rfl⟩⟩
    case round =>
      obtain ⟨q, hq, rfl, ⟨d, rfl, hd⟩⟩ := hrel
      by_cases hlt : q < m
      · obtain ⟨b2, off2, rfl, hb2B, hcells2⟩ := HAT.out (by omega)
        have k2 := hcells2 q (by rw [hlen]; omega)
        rw [HG.out q (by omega)] at k2
        have hbd := cntB_le ws one q
        by_cases hbt : bitAt ws q = one
        · have t1 : (one != one) = false := by simp
          rw [hbt] at k2
          by_cases hd0 : d = 0
          · subst hd0
            have hres : r = q ∧ cc = 0 := by
              rcases HS.out.at_ hbt (by omega) with ⟨_, h2, h3⟩ | ⟨h1, _⟩
              · exact ⟨h2, h3⟩
              · omega
            obtain ⟨rfl, rfl⟩ := hres
            clear hcells2 hbt hd
            go_wp2
            go_ret2
            exact ⟨rfl, (below_box HB.out).trans (hb2.mono (by omega))⟩
          · have HY := Lib.hid (cntB_yes hbt)
            have t2 : ((d : Int) == 0) = false := by simp; omega
            have HD := Lib.hid hd
            have hdk : d ≤ k := by omega
            clear hcells2 hbt hd
            go_wp2
            go_round
            case rel => exact ⟨q + 1, by omega, by go_num, ⟨d - 1, vint (by omega), by rw [HY.out]; have := HD.out; omega⟩⟩
            case measure => simp [intOf]; omega
        · have HN := Lib.hid (cntB_no hbt)
          have t1 : (bitAt ws q != one) = true := by simpa using hbt
          have HD := Lib.hid hd
          generalize bitAt ws q = bt at *
          clear hcells2 hd
          cases bt <;> cases one <;> first | (exfalso; exact hbt rfl) | skip
          all_goals
            clear hbt
            go_wp2
            go_round
            case rel => exact ⟨q + 1, by omega, by go_num, ⟨d, rfl, by rw [HN.out]; exact HD.out⟩⟩
            case measure => simp [intOf]; omega
      · obtain rfl : q = m := by omega
        obtain ⟨rfl, rfl⟩ := HS.out.none_ (by omega)
        go_wp2
        go_ret2
        exact ⟨rfl, (below_box HB.out).trans (hb2.mono (by omega))⟩
set_option maxHeartbeats 400000 in
theorem bitsSelects_walk (v t u : Value) (w : World) (h : ∃ n ws, IsBits w w.heap.size v n ws) (h2 : ∃ x : Bool, t = .bool x) (h' : ∃ x : Int, u = .int .i64 x ∧ I64 x) :
    Calls Try.prog 4 #[v, t, u] w fun e w' => e = .returned (.bool true) ∧ Below w.heap.size w w' := by
  obtain ⟨n, ws, h⟩ := h
  obtain ⟨one, rfl⟩ := h2
  obtain ⟨i, rfl, hi⟩ := h'
  obtain ⟨r, cc, hR⟩ := BSelR.ex n ws one i
  obtain ⟨s, rfl⟩ : ∃ s, v = .agg #[.int .i64 n, s] := by obtain ⟨s, e, _⟩ := h; exact ⟨s, e⟩
  have HH := Lib.hid h
  have HR := Lib.hid hR
  have HI := Lib.hid hi
  clear h hR hi
  go_enter Try.func4, Try.ntmps4
  go_wp2_with (first
    | (go_at_call 17; refine (bitsSelect_any _ n i one ws r cc _ w.heap.size (box_le (Nat.le_refl _)) (HH.out.below ((Below.refl _ _).alloc (Nat.le_refl _) _)) HI.out HR.out).mono ?_; rintro e w1 ⟨rfl, hb⟩; obtain ⟨k0, k1⟩ := box2 hb; have hs1 := size_box hb; have HB := Lib.hid hb; clear hb)
    | (go_at_call 18; refine (refSelect_any _ n i one ws r cc _ w.heap.size (by omega) (HH.out.below (below_box HB.out)) HI.out HR.out).mono ?_; rintro e w2 ⟨rfl, hb2⟩))
  all_goals (go_ret; exact ⟨ret_bool (by simp), (below_box HB.out).trans (hb2.mono (by omega))⟩)
end Go.Proofs.Yteblkbgcnoepnaa
