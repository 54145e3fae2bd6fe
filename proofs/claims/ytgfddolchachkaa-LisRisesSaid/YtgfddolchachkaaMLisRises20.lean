/-
  The walk of the law LisRises: a rise as long as the longest one. Conditions: the argument is a list of ints.
-/
import Derived.Test.YtgfddolchachkaaMLisRises18
import Derived.Test.YtgfddolchachkaaMLisRises19
namespace Go.Proofs.Ytgfddolchachkaa
open Go Go.RowKit Go.Dam
set_option linter.unusedVariables false
set_option maxRecDepth 100000 in
set_option maxHeartbeats 4000000 in
theorem lisRises_walk (v : Value) (w : World) (h : ∃ l, IsInts .i64 w w.heap.size v l) :
    Calls Try.prog 14 #[v] w fun e w' => e = .returned (.bool true) ∧ Below w.heap.size w w' := by
  obtain ⟨l, h⟩ := h
  obtain ⟨r, cc, hR⟩ := LisR.ex l
  have H1 := Lib.hid (lisRise_any v l w _ (Nat.le_refl _) h)
  have H2 := Lib.hid fun W (hb : Below w.heap.size w W) => refLis_any v l r cc W _ hb.size (h.below hb) hR
  obtain ⟨A, c, rfl, hc, hm, hn, hr, hw⟩ := h
  rcases hR with ⟨h1, rfl, rfl⟩ | ⟨h1, rfl, rfl⟩
  · clear hr hw
    go_enter Try.func14, Try.ntmps14
    go_wp2_with (first
      | (go_at_call 40; refine (H1.out).mono ?_; rintro e w1 ⟨v1, xs, c1, rfl, hi1, hb1, ho⟩; obtain ⟨rfl, rfl⟩ : xs = [] ∧ c1 = 1 := (by rcases ho with ⟨_, a, b⟩ | ⟨a, _⟩ <;> first | exact ⟨a, b⟩ | omega); obtain ⟨A1, cap1, rfl, _, _, _, _, _⟩ := hi1; clear ho)
      | (go_at_call 41; refine (H2.out _ hb1).mono ?_; rintro e w2 ⟨v2, rfl, hi2, hb2⟩))
    go_ret
    exact ⟨ret_bool (by simp), hb1.trans (hb2.mono hb1.size)⟩
  · obtain ⟨F, hF⟩ : ∃ F : Nat → Int, F = fun k => l.getD k 0 := ⟨_, rfl⟩
    have HF : Hid (∀ k, l.getD k 0 = F k) := Lib.hid fun k => by rw [hF]
    rw [← hF] at H2
    have HFF := Lib.hid hF
    have HRl := Lib.hid hr
    clear hw hF hr
    go_enter Try.func14, Try.ntmps14
    go_upto_region 7 with (first
      | (go_at_call 40; refine (H1.out).mono ?_; rintro e w1 ⟨v1, xs, c1, rfl, hi1, hb1, ho⟩; obtain ⟨rfl, ps, o, hp, rfl, hris⟩ : c1 = 0 ∧ ∃ ps o, Piles (fun k => l.getD k 0) l.length ps ∧ xs = toInts o ∧ RiseIs (fun k => l.getD k 0) l.length ps.length o := (by rcases ho with ⟨a, _⟩ | ⟨_, b, d⟩ <;> first | omega | exact ⟨b, d⟩); rw [← HFF.out] at hp hris; have HP := Lib.hid hp; have HRi := Lib.hid hris; have HI1 := Lib.hid hi1; clear ho hp hris hi1)
      | (go_at_call 41; refine (H2.out _ hb1).mono ?_; rintro e w2 ⟨v2, rfl, hi2, hb2⟩; have HI2 := Lib.hid hi2; clear hi2))
    obtain ⟨A1, cp1, e1, hc1, hm1, hn1, hr1, hw1⟩ := HI1.out.below hb2
    obtain ⟨A2, cp2, e2, hc2, hm2, hn2, hr2, hw2⟩ := HI2.out
    rw [toInts_length, HRi.out.1] at e1 hc1
    rw [toInts_length, lensTo_length] at e2 hc2 hr2
    subst e1 e2
    have hb1s := hb2.size
    have hBel := Lib.hid (hb1.trans (hb2.mono hb1.size))
    have hz2 : w.heap.size ≤ w2.heap.size := hBel.out.size
    have HMost := Lib.hid HP.out.most
    have HR1 := Lib.hid hr1
    have hpl : ps.length ≤ 300 := by
      have := HP.out.most
      have h2 : mostTo (lensTo F l.length) l.length ≤ l.length := mostTo_le fun k hk => by have := (lensTo_le (f := F) hk).2; omega
      omega
    clear hr1 hw1 hw2 HI1 HI2 hb1 hb2 H1 H2
    go_loop [7, 8] (fun mv iv => ∃ i : Nat, i ≤ l.length ∧ iv = .int .i64 i ∧ mv = .int .i64 ((mostTo (lensTo F l.length) i : Nat) : Int)) (fun _ iv => l.length - (intOf iv).toNat)
    case atStart => exact ⟨0, by omega, rfl, by rw [mostTo_0]; rfl⟩
    case round =>
      obtain ⟨i, hi, rfl, rfl⟩ := hrel
      by_cases hlt : i < l.length
      · obtain ⟨b, off, rfl, hb, hcells⟩ : ∃ b off, A2 = some ⟨b, off, none⟩ ∧ b < w2.heap.size ∧ ∀ j, j < l.length → w2.cell? ⟨b, off + j, none⟩ = some (.int .i64 ((toInts (lensTo F l.length)).getD j 0)) := by
          have e : l.length = (toInts (lensTo F l.length)).length := by rw [toInts_length, lensTo_length]
          have := ints_cells (l := toInts (lensTo F l.length)) (by rw [← e]; exact hr2) (by rw [← e]; omega)
          rwa [← e] at this
        have k0 := hcells i hlt
        rw [toInts_at (by rw [lensTo_length]; exact hlt)] at k0
        have HS := Lib.hid (mostTo_succ (lensTo F l.length) i)
        have hble : mostTo (lensTo F l.length) i ≤ 1000 := mostTo_le fun k hk => by have := (lensTo_le (f := F) (show k < l.length by omega)).2; omega
        generalize mostTo (lensTo F l.length) i = y at *
        generalize (lensTo F l.length).getD i 0 = z at *
        clear hcells
        go_wp2_with fail
        go_round
        case rel => exact ⟨i + 1, by omega, by go_num, by first | exact vint (by rw [HS.out]; split <;> omega) | (rw [HS.out]; exact vint (by omega)) | (congr 1; rw [HS.out]; push_cast; omega)⟩
        case measure => simp [intOf]; omega
      · obtain rfl : i = l.length := by omega
        rw [HMost.out]
        clear hr2 HMost
        go_wp2_with fail
        go_loopw [9] (fun iv wr => ∃ i : Nat, i ≤ ps.length ∧ iv = .int .i64 i ∧ Drawn w2 wr) (fun iv _ => ps.length - (intOf iv).toNat)
        case atStart => exact ⟨0, by omega, rfl, Drawn.refl _⟩
        case round =>
          obtain ⟨i, hi, rfl, hd⟩ := hrel
          obtain ⟨wo, rfl⟩ : ∃ wo : World, wo = wr := ⟨_, rfl⟩
          by_cases hlt : i < ps.length
          · have hol := HRi.out.1
            obtain ⟨bx, ox, rfl, hbx, hxc⟩ := ints_cells HR1.out (by rw [toInts_length]; omega)
            rw [toInts_length, hol] at hxc
            have t9 : decide ((i : Int) < (ps.length : Int)) = true := decide_eq_true (by omega)
            have hxi := HRi.out.2.1 i hlt
            have a1 := (hd.cell _).trans (hxc i hlt)
            rw [toInts_at (by omega)] at a1
            rcases Nat.eq_zero_or_pos i with rfl | hip
            · obtain ⟨x, hx⟩ : ∃ x, x = o.getD 0 0 := ⟨_, rfl⟩
              rw [← hx] at a1 hxi
              rw [Nat.add_zero] at a1
              have n1' : decide (l.length ≤ x) = false := decide_eq_false (by omega)
              have n0 : decide ((x : Int) < 0) = false := decide_eq_false (by omega)
              have n1 : decide ((l.length : Int) ≤ (x : Int)) = false := decide_eq_false (by omega)
              have k1 : (0 : Int) < (ps.length : Int) := by omega
              have n3 : ((0 : Nat) : Int) = 0 := rfl
              clear hx hxc
              go_wp2_with fail
              go_quiet (fail)
              go_wp2
              go_roundw
              case rel => exact ⟨1, by omega, by go_num, hd.trans ⟨_, rfl⟩⟩
              case measure => simp [intOf] <;> omega
            · obtain ⟨j, rfl⟩ : ∃ j, i = j + 1 := ⟨i - 1, by omega⟩
              obtain ⟨s1, s2⟩ := HRi.out.2.2 j hlt
              have hyi := HRi.out.2.1 j (by omega)
              have a2 := (hd.cell _).trans (hxc j (by omega))
              rw [toInts_at (by omega)] at a2
              obtain ⟨bl, ol, rfl, hbl, hlc⟩ := ints_cells HRl.out (by omega)
              obtain ⟨x, hx⟩ : ∃ x, x = o.getD (j + 1) 0 := ⟨_, rfl⟩
              obtain ⟨y, hy⟩ : ∃ y, y = o.getD j 0 := ⟨_, rfl⟩
              rw [← hx] at a1 hxi s1 s2
              rw [← hy] at a2 hyi s1 s2
              have b1 := (hd.cell ⟨bl, ol + x, none⟩).trans ((hBel.out.cell (p := ⟨bl, ol + x, none⟩) hbl).trans (hlc x hxi))
              have b2 := (hd.cell ⟨bl, ol + y, none⟩).trans ((hBel.out.cell (p := ⟨bl, ol + y, none⟩) hbl).trans (hlc y hyi))
              rw [HF.out] at b1 b2
              obtain ⟨fx, hfx⟩ : ∃ z, z = F x := ⟨_, rfl⟩
              obtain ⟨fy, hfy⟩ : ∃ z, z = F y := ⟨_, rfl⟩
              rw [← hfx] at b1 s2
              rw [← hfy] at b2 s2
              have n0 : decide ((x : Int) < 0) = false := decide_eq_false (by omega)
              have n1 : decide ((l.length : Int) ≤ (x : Int)) = false := decide_eq_false (by omega)
              have n1' : decide (l.length ≤ x) = false := decide_eq_false (by omega)
              have n3' : decide (x ≤ y) = false := decide_eq_false (by omega)
              have n2 : decide ((0 : Int) < (j : Int) + 1) = true := decide_eq_true (by omega)
              have n3 : decide ((x : Int) ≤ (y : Int)) = false := decide_eq_false (by omega)
              have n4 : decide (fx ≤ fy) = false := decide_eq_false (by omega)
              have k1 : (j : Int) + 1 < (ps.length : Int) := by omega
              have k2 : (j : Int) < (ps.length : Int) := by omega
              have k3 : (j : Int) + 1 - 1 = (j : Int) := by omega
              have k4 : IntKind.i64.wrap (j : Int) = (j : Int) := by rw [IntKind.wrap_i64]; omega
              have k5 : (0 : Int) ≤ (j : Int) + 1 := by omega
              have k6 : ((j : Int) + 1).toNat = j + 1 := by omega
              have k7 : (x : Int) < (l.length : Int) := by omega
              have k8 : (y : Int) < (l.length : Int) := by omega
              clear hx hy hxc hlc hfx hfy s1 s2
              go_wp2_with fail
              go_quiet (fail)
              go_wp2
              go_roundw
              case rel => exact ⟨j + 1 + 1, by omega, by go_num, hd.trans ⟨_, rfl⟩⟩
              case measure => simp [intOf] <;> omega
          · obtain rfl : i = ps.length := by omega
            go_wp2
            go_ret
            exact ⟨ret_bool (by simp), hBel.out.trans (hd.below _ |>.mono hz2)⟩
end Go.Proofs.Ytgfddolchachkaa
