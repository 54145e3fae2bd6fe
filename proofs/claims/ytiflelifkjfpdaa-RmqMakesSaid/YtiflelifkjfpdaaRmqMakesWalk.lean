/-
  The walk of the law damask/damasklaw.RmqMakes: it returns true and changes no old memory. Conditions: the argument is a list of ints.
-/
import Derived.Test.YtiflelifkjfpdaaRefRmqMake
namespace Go.Proofs.Ytiflelifkjfpdaa
open Go Go.RowKit Go.Dam
set_option linter.unusedVariables false
theorem rmqMakeR_len {l : List Int} {ls : List (List Int)} {c : Int} (h : RmqMakeR l ls c) : ls.length ≤ 62 := by
  rcases h with ⟨_, rfl, _⟩ | ⟨h1, rfl, _⟩
  · simp
  · rw [rmqRows_length]; exact p2s_62 (by omega)
set_option maxHeartbeats 1000000 in
theorem rmqMakes_walk (v : Value) (w : World) (h : ∃ l, IsInts .i64 w w.heap.size v l) :
    Calls Try.prog 3 #[v] w fun e w' => e = .returned (.bool true) ∧ Below w.heap.size w w' := by
  obtain ⟨l, h⟩ := h
  obtain ⟨ls, cc, hR⟩ := RmqMakeR.ex l
  have H1 := Lib.hid (rmqMake_any v l ls cc w _ (Nat.le_refl _) h hR)
  have H2 := Lib.hid fun W (hb : Below w.heap.size w W) => refRmqMake_any v l ls cc W _ hb.size (h.below hb) hR
  have hlen := rmqMakeR_len hR
  obtain ⟨A, c, rfl, hc, hm, hn, hr, hw⟩ := h
  clear hr hw hR
  go_enter Try.func3, Try.ntmps3
  go_wp2_with (first
    | (go_at_call 15; refine (H1.out).mono ?_; rintro e w1 ⟨v1, rfl, hi1, hb1⟩; have hi1' := hi1; obtain ⟨A1, c1, vs1, rfl, hc1, hm1, hn1, hl1, hr1, hx1⟩ := hi1'; clear hl1 hr1 hx1)
    | (go_at_call 16; refine (H2.out _ hb1).mono ?_; rintro e w2 ⟨v2, rfl, hi2, hb2⟩; have hi2' := hi2; obtain ⟨A2, c2, vs2, rfl, hc2, hm2, hn2, hl2, hr2, hx2⟩ := hi2'; clear hl2 hr2 hx2))
  have hj1 := (hi1.below hb2).more hb2.size
  have hBel := Lib.hid (hb1.trans (hb2.mono hb1.size))
  obtain ⟨A1, c1, vs1, e1, hc1, hm1, hn1, hl1, hr1, hx1⟩ := hj1
  obtain ⟨A2, c2, vs2, e2, hc2, hm2, hn2, hl2, hr2, hx2⟩ := hi2
  injection e1 with e1 e1' e1''
  injection e2 with e2 e2' e2''
  subst e1 e1'' e2 e2''
  have HX1 := Lib.hid hx1
  have HX2 := Lib.hid hx2
  have HL1 := Lib.hid hl1
  have HL2 := Lib.hid hl2
  clear hx1 hx2 hl1 hl2 hi1 hb1 hb2
  go_loopw [7] (fun iv wr => ∃ i : Nat, i ≤ ls.length ∧ iv = .int .i64 i ∧ Drawn w2 wr) (fun iv _ => ls.length - (intOf iv).toNat)
  case atStart => exact ⟨0, by omega, rfl, Drawn.refl _⟩
  case round =>
    obtain ⟨i, hi, rfl, hd⟩ := hrel
    by_cases hlt : i < ls.length
    · obtain ⟨b, off, rfl, hb, hcells⟩ := IsRows.cells (c := c1) HL1.out hr1 (by omega)
      obtain ⟨b', off', rfl, hb', hcells'⟩ := IsRows.cells (c := c2) HL2.out hr2 (by omega)
      have k0 := (hd.cell ⟨b, off + i, none⟩).trans (hcells i hlt)
      have k1 := (hd.cell ⟨b', off' + i, none⟩).trans (hcells' i hlt)
      have HC := Lib.hid fun n => sameInts_any _ _ _ (wr.drewN n) w2.heap.size ((HX1.out i hlt).below ((hd.drewN n).below _)) ((HX2.out i hlt).below ((hd.drewN n).below _))
      have HD := Lib.hid hd
      generalize vs1.getD i undef = x at *
      generalize vs2.getD i undef = y at *
      clear hcells hcells' hd
      go_wp2_with fail
      go_quiet ((go_at_call 17; exact quiet_of_drawn (HC.out _)))
      go_wp2
      go_roundw
      case rel => exact ⟨i + 1, by omega, by go_num, HD.out.drewN _⟩
      case measure => simp [intOf]; omega
    · obtain rfl : i = ls.length := by omega
      go_wp2
      go_ret
      exact ⟨rfl, hBel.out.trans (hd.below _)⟩
end Go.Proofs.Ytiflelifkjfpdaa
