/-
  The walk of the law damask/damasklaw.LisFalls: it returns true and changes no old memory. Conditions: the argument is a list of ints.
-/
import Derived.Test.YtjniiiimkejkiaaLisLengths
import Derived.Test.YtjniiiimkejkiaaLisFallPlain
import Derived.Deep.CutRange
namespace Go.Proofs.Ytjniiiimkejkiaa
open Go Go.RowKit Go.Dam
set_option linter.unusedVariables false
theorem el_boolF : El Try.prog 38 4 (.bool false) 1 1 := ⟨Try.underlying38, by kernel_rfl, rfl, by decide⟩
/-- A block of marks. -/
def MBlk (w : World) (g : Nat) (l : List Bool) : Prop := Blk w g 4 (l.map Value.bool).toArray
theorem MBlk.cell {w : World} {g : Nat} {f : Nat → Bool} {n i : Nat} (h : MBlk w g (marks f n)) (hi : i < n) : w.cell? ⟨g, i, none⟩ = some (.bool (f i)) := by
  rw [Blk.cell h]; simp [marks_at hi]
theorem MBlk.set {w : World} {g : Nat} {l : List Bool} (h : MBlk w g l) (i : Nat) (x : Bool) : MBlk (w.setCell ⟨g, i, none⟩ (.bool x)) g (l.set i x) := by
  have := Blk.set_ h i (.bool x)
  unfold MBlk
  rw [List.map_set]
  simpa using this
set_option maxRecDepth 100000 in
set_option maxHeartbeats 4000000 in
theorem lisFalls_walk (v : Value) (w : World) (h : ∃ l, IsInts .i64 w w.heap.size v l) :
    Calls Try.prog 7 #[v] w fun e w' => e = .returned (.bool true) ∧ Below w.heap.size w w' := by
  obtain ⟨l, h⟩ := h
  obtain ⟨r, cc, hR⟩ := LisR.ex l
  have H1 := Lib.hid (lisFalls_any v l w _ (Nat.le_refl _) h)
  have H2 := Lib.hid fun W (hb : Below w.heap.size w W) => refLis_any v l r cc W _ hb.size (h.below hb) hR
  obtain ⟨A, c, rfl, hc, hm, hn, hr, hw⟩ := h
  rcases hR with ⟨h1, rfl, rfl⟩ | ⟨h1, rfl, rfl⟩
  · clear hr hw
    go_enter Try.func7, Try.ntmps7
    go_wp2_with (first
      | (go_at_call 25; refine (H1.out).mono ?_; rintro e w1 ⟨v1, c1, ls, rfl, hi1, hb1, ho⟩; obtain ⟨rfl, rfl⟩ : ls = [] ∧ c1 = 1 := (by rcases ho with ⟨_, a, b⟩ | ⟨a, _⟩ <;> first | exact ⟨a, b⟩ | omega); obtain ⟨A1, cap1, vs1, rfl, _, _, _, _, _, _⟩ := hi1; clear ho)
      | (go_at_call 23; refine (H2.out _ hb1).mono ?_; rintro e w2 ⟨v2, rfl, hi2, hb2⟩))
    go_ret
    exact ⟨ret_bool (by simp), hb1.trans (hb2.mono hb1.size)⟩
  · have hmk := fun w' => run_make1 el_boolF rfl l.length l.length rfl (by omega) (by omega) w'
    obtain ⟨F, hF⟩ : ∃ F : Nat → Int, F = fun k => l.getD k 0 := ⟨_, rfl⟩
    have HF : Hid (∀ k, l.getD k 0 = F k) := Lib.hid fun k => by rw [hF]
    rw [← hF] at H2
    have HFF := Lib.hid hF
    clear hw hF
    go_enter Try.func7, Try.ntmps7
    go_upto_region 7 with (first
      | (go_at_call 25; refine (H1.out).mono ?_; rintro e w1 ⟨v1, c1, ls, rfl, hi1, hb1, ho⟩; obtain ⟨rfl, ps, hp, hpl, rfl⟩ : c1 = 0 ∧ ∃ ps, Piles (fun k => l.getD k 0) l.length ps ∧ ps.length ≤ l.length ∧ ls = toRows ps := (by rcases ho with ⟨a, _⟩ | ⟨_, b⟩ <;> first | exact b | omega); rw [← HFF.out] at hp; have HP := Lib.hid hp; have HI1 := Lib.hid hi1; clear ho hp hi1)
      | (go_at_call 23; refine (H2.out _ hb1).mono ?_; rintro e w2 ⟨v2, rfl, hi2, hb2⟩; have HI2 := Lib.hid hi2; clear hi2))
    obtain ⟨A1, cp1, vs1, e1, hc1, hm1, hn1, hl1, hr1, hx1⟩ := HI1.out.below hb2
    obtain ⟨A2, cp2, e2, hc2, hm2, hn2, hr2, hw2⟩ := HI2.out
    rw [toRows_length] at e1 hc1 hl1 hr1
    rw [toInts_length, lensTo_length] at e2 hc2 hr2
    subst e1 e2
    have hb1s := hb2.size
    have hBel := Lib.hid (hb1.trans (hb2.mono hb1.size))
    have hz2 : w.heap.size ≤ w2.heap.size := hBel.out.size
    have HX1 := Lib.hid fun i (hi : i < ps.length) => hx1 i (by rw [toRows_length]; exact hi)
    have HL1 := Lib.hid hl1
    have HMost := Lib.hid HP.out.most
    clear hx1 hl1 hw2 HI1 HI2 hb1 hb2 H1 H2
    go_loop [7, 8] (fun mv iv => ∃ i : Nat, i ≤ l.length ∧ iv = .int .i64 i ∧ mv = .int .i64 ((mostTo (lensTo F l.length) i : Nat) : Int)) (fun _ iv => l.length - (intOf iv).toNat)
    case atStart => exact ⟨0, by omega, rfl, by rw [mostTo_0]; rfl⟩
    case round =>
      obtain ⟨i, hi, rfl, rfl⟩ := hrel
      by_cases hlt : i < l.length
      · obtain ⟨b, off, rfl, hb, hcells⟩ : ∃ b off, A2 = some ⟨b, off, none⟩ ∧ b < w2.heap.size ∧ ∀ j, j < l.length → w2.cell? ⟨b, off + j, none⟩ = some (.int .i64 ((toInts (lensTo F l.length)).getD j 0)) := by
          have e : l.length = (toInts (lensTo F l.length)).length := by rw [toInts_length, lensTo_length]
          have := ints_cells (l := toInts (lensTo F l.length)) (by rw [← e]; exact hr2) (by rw [← e]; omega)
          rwa [← e] at this
        have k0 := hcells i hlt
        rw [toInts_at (by rw [lensTo_length]; exact hlt)] at k0
        have HS := Lib.hid (mostTo_succ (lensTo F l.length) i)
        have hble : mostTo (lensTo F l.length) i ≤ 1000 := mostTo_le fun k hk => by have := (lensTo_le (f := F) (show k < l.length by omega)).2; omega
        generalize mostTo (lensTo F l.length) i = y at *
        generalize (lensTo F l.length).getD i 0 = z at *
        clear hcells
        go_wp2_with fail
        go_round
        case rel => exact ⟨i + 1, by omega, by go_num, vint (by rw [HS.out]; split <;> omega)⟩
        case measure => simp [intOf]; omega
      · obtain rfl : i = l.length := by omega
        rw [HMost.out]
        clear hr2 HMost
        go_wp2_with fail
        clear hmk
        go_loopw [10, 11] (fun av iv wr => ∃ i : Nat, i ≤ ps.length ∧ iv = .int .i64 i ∧ av = .int .i64 ((cntB2 (seenP (lensTo F l.length) ps i 0) l.length : Nat) : Int) ∧ MBlk wr w2.heap.size (marks (seenP (lensTo F l.length) ps i 0) l.length) ∧ Below w2.heap.size w2 wr) (fun _ iv _ => ps.length - (intOf iv).toNat)
        case atStart =>
          refine ⟨0, by omega, rfl, by rw [cntB2_none fun j hj => seen_start hj]; rfl, ?_, (Below.refl _ _).alloc (Nat.le_refl _) _⟩
          rw [marks_false fun j hj => seen_start hj]
          unfold MBlk
          rw [List.map_replicate]
          exact Blk.new w2 _ _
        case round =>
          obtain ⟨wo, rfl⟩ : ∃ wo : World, wo = wr := ⟨_, rfl⟩
          obtain ⟨i, hi, rfl, rfl, hblk, hbel⟩ := hrel
          have hcle := cntB2_le (seenP (lensTo F l.length) ps i 0) l.length
          by_cases hlt : i < ps.length
          · obtain ⟨bo, oo, rfl, hbo, hoc⟩ : ∃ b off, A1 = some ⟨b, off, none⟩ ∧ b < w1.heap.size ∧ ∀ i, i < ps.length → w2.cell? ⟨b, off + i, none⟩ = some (vs1.getD i undef) := by
              have := IsRows.cells (ls := toRows ps) (c := cp1) (by rw [toRows_length]; exact HL1.out) (by rw [toRows_length]; exact hr1) (by rw [toRows_length]; omega)
              rwa [toRows_length] at this
            have q0 := (hbel.cell (p := ⟨bo, oo + i, none⟩) (by simp; omega)).trans (hoc i hlt)
            have hrow := HX1.out i hlt
            rw [toRows_at] at hrow
            obtain ⟨Ar, cr, hrv, hcr, hmr, hrr⟩ := hrow.open_ (toInts_length _)
            rw [hrv] at q0
            have hNe := HP.out.ne i hlt
            have hN := HP.out.len_le hlt
            have hNp : 0 < (ps.getD i []).length := List.length_pos_iff.2 hNe
            have hmem := HP.out.mem i hlt
            have hasc := HP.out.asc i hlt
            have hsn := fun k hk => seen_not HP.out (k := k) hlt hk
            have hsx := fun k hk j => seen_next (f := F) (n := l.length) (ps := ps) (i := i) (k := k) hk j
            have hsp := fun j hj => seen_pile HP.out (j := j) hlt hj
            generalize hpi : ps.getD i [] = pi at *
            have HMem := Lib.hid hmem
            have HAsc := Lib.hid hasc
            have HSn := Lib.hid hsn
            have HSx := Lib.hid hsx
            have HSp := Lib.hid hsp
            have HBlk := Lib.hid hblk
            have HB := Lib.hid hbel
            have HHr := Lib.hid hr
            have HRr := Lib.hid hrr
            have HQ0 : Hid (w2.cell? ⟨bo, oo + i, none⟩ = some (.slice Ar pi.length cr)) := Lib.hid (by rw [hoc i hlt, hrv])
            have hz3 : w2.heap.size ≤ wo.heap.size := hbel.size
            have hzw := hz2
            have t0 : ((pi.length : Int) == 0) = false := by rw [beq_eq_false_iff_ne]; omega
            clear hmem hasc hsn hsx hsp hblk hbel hr hrr hrow hrv hoc hNe hpi hr1
            go_wp2_with fail
            go_loopw [10, 12, 13] (fun av kv _ wr => ∃ k : Nat, k ≤ pi.length ∧ kv = .int .i64 k ∧ av = .int .i64 ((cntB2 (seenP (lensTo F l.length) ps i k) l.length : Nat) : Int) ∧ MBlk wr w2.heap.size (marks (seenP (lensTo F l.length) ps i k) l.length) ∧ Below w2.heap.size w2 wr) (fun _ kv _ _ => pi.length - (intOf kv).toNat)
            case atStart => exact ⟨0, by omega, rfl, rfl, HBlk.out, HB.out⟩
            case round =>
              clear HBlk HB q0
              obtain ⟨wi, rfl⟩ : ∃ wi : World, wi = wr := ⟨_, rfl⟩
              obtain ⟨k, hk, rfl, rfl, hblk, hbel⟩ := hrel
              have hcle := cntB2_le (seenP (lensTo F l.length) ps i k) l.length
              have q1 := (hbel.cell (p := ⟨bo, oo + i, none⟩) (by simp; omega)).trans HQ0.out
              by_cases hlt2 : k < pi.length
              · obtain ⟨bx, ox, rfl, hbx, hcx⟩ : ∃ b off, Ar = some ⟨b, off, none⟩ ∧ b < w1.heap.size ∧ ∀ j, j < pi.length → w2.cell? ⟨b, off + j, none⟩ = some (.int .i64 ((toInts pi).getD j 0)) := by
                  have := ints_cells (l := toInts pi) HRr.out (by rw [toInts_length]; omega)
                  rwa [toInts_length] at this
                obtain ⟨bl, ol, rfl, hbl, hcl⟩ := ints_cells HHr.out (by omega)
                have hpm : pi.getD k 0 ∈ pi := by
                  rw [List.getD_eq_getElem?_getD, List.getElem?_eq_getElem hlt2]; exact List.getElem_mem hlt2
                have hpn := ((HMem.out _).1 hpm).1
                have q2 := (hbel.cell (p := ⟨bx, ox + k, none⟩) (by simp; omega)).trans (hcx k hlt2)
                rw [toInts_at hlt2] at q2
                have q3 := (hbel.cell (p := ⟨bl, ol + pi.getD k 0, none⟩) (by simp; omega)).trans ((hBel.out.cell (p := ⟨bl, ol + pi.getD k 0, none⟩) (by simp; omega)).trans (hcl _ hpn))
                rw [HF.out] at q3
                have q4 := hblk.cell hpn
                rw [HSn.out k hlt2] at q4
                have q5 := Blk.frozen hblk (pi.getD k 0)
                have HCnt := Lib.hid (cntB2_more (g := seenP (lensTo F l.length) ps i k) (g' := seenP (lensTo F l.length) ps i (k + 1)) hpn (HSn.out k hlt2) (by rw [HSx.out k hlt2]; simp) fun j hj hne => by rw [HSx.out k hlt2, decide_eq_false hne, Bool.or_false])
                have HS : Hid (∀ W, MBlk W w2.heap.size (marks (seenP (lensTo F l.length) ps i k) l.length) → MBlk (W.setCell ⟨w2.heap.size, pi.getD k 0, none⟩ (.bool true)) w2.heap.size (marks (seenP (lensTo F l.length) ps i (k + 1)) l.length)) := Lib.hid fun W hW => by
                  have := hW.set (pi.getD k 0) true
                  rwa [marks_set (g' := seenP (lensTo F l.length) ps i (k + 1)) (by rw [HSx.out k hlt2]; simp) fun j hj hne => by rw [HSx.out k hlt2, decide_eq_false hne, Bool.or_false]] at this
                have HB0 := Lib.hid hblk
                have HB := Lib.hid hbel
                cases k with
                | zero =>
                  rw [Nat.add_zero] at q2
                  rw [show ((0 : Nat) : Int) = 0 from rfl]
                  generalize pi.getD 0 0 = p at *
                  have t1 : decide ((p : Int) < 0) = false := by simp
                  have t2 : decide (l.length ≤ p) = false := by simp; omega
                  have t2' : decide ((l.length : Int) ≤ (p : Int)) = false := by simp; omega
                  generalize cntB2 (seenP (lensTo F l.length) ps i 0) l.length = cn at *
                  clear hblk hbel hcx hcl hpm
                  go_wp2_with fail
                  go_quiet (fail)
                  go_wp2_with fail
                  go_roundw
                  case rel => exact ⟨0 + 1, by omega, by go_num, by rw [HCnt.out]; go_num, (HS.out _ (show MBlk _ _ _ from HB0.out)), (HB.out.trans ((Drawn.refl _).drewN _ |>.below _)).setCell (p := ⟨w2.heap.size, p, none⟩) (Nat.le_refl _) _⟩
                  case measure => simp [intOf]; omega
                | succ k =>
                  have hqp := asc_at (HAsc.out.imp fun {a b} (h : a < b ∧ F b ≤ F a) => h.1) (show k < k + 1 by omega) hlt2
                  have hqf : F (pi.getD (k + 1) 0) ≤ F (pi.getD k 0) := by
                    have := List.pairwise_iff_getElem.1 HAsc.out k (k + 1) (by omega) hlt2 (by omega)
                    have e1 : pi.getD k 0 = pi[k]'(by omega) := by simp [show k < pi.length by omega]
                    have e2 : pi.getD (k + 1) 0 = pi[k + 1] := by simp [hlt2]
                    rw [e1, e2]; exact this.2
                  have q6 := (hbel.cell (p := ⟨bx, ox + k, none⟩) (by simp; omega)).trans (hcx k (by omega))
                  rw [toInts_at (by omega)] at q6
                  have q7 := (hbel.cell (p := ⟨bl, ol + pi.getD k 0, none⟩) (by simp; omega)).trans ((hBel.out.cell (p := ⟨bl, ol + pi.getD k 0, none⟩) (by simp; omega)).trans (hcl _ (by omega)))
                  rw [HF.out] at q7
                  generalize pi.getD (k + 1) 0 = p at *
                  generalize pi.getD k 0 = q at *
                  have t1 : decide ((p : Int) < 0) = false := by simp
                  have t2 : decide (l.length ≤ p) = false := by simp; omega
                  have t2' : decide ((l.length : Int) ≤ (p : Int)) = false := by simp; omega
                  have t3 : decide (p ≤ q) = false := by simp; omega
                  have t3' : decide ((p : Int) ≤ (q : Int)) = false := by simp; omega
                  have t4 : decide (F q < F p) = false := by simp; omega
                  generalize cntB2 (seenP (lensTo F l.length) ps i (k + 1)) l.length = cn at *
                  clear hblk hbel hcx hcl hpm
                  go_wp2_with fail
                  go_quiet (fail)
                  go_wp2_with fail
                  go_roundw
                  case rel => exact ⟨k + 1 + 1, by omega, by go_num, by rw [HCnt.out]; go_num, (HS.out _ (show MBlk _ _ _ from HB0.out)), (HB.out.trans ((Drawn.refl _).drewN _ |>.below _)).setCell (p := ⟨w2.heap.size, p, none⟩) (Nat.le_refl _) _⟩
                  case measure => simp [intOf]; omega
              · obtain rfl : k = pi.length := by omega
                have HB0 := Lib.hid hblk
                have HB := Lib.hid hbel
                have HE1 := Lib.hid (cntB2_congr (g := seenP (lensTo F l.length) ps (i + 1) 0) (g' := seenP (lensTo F l.length) ps i pi.length) (n := l.length) HSp.out)
                have HE2 := Lib.hid (marks_congr (g := seenP (lensTo F l.length) ps i pi.length) (g' := seenP (lensTo F l.length) ps (i + 1) 0) (n := l.length) HSp.out)
                clear hblk hbel
                go_wp2_with fail
                exact ⟨⟨i + 1, by omega, by go_num, by rw [← HE1.out], by rw [← HE2.out]; exact HB0.out, HB.out⟩, by simp [intOf]; omega⟩
          · obtain rfl : i = ps.length := by omega
            have HE := Lib.hid (cntB2_all (g := seenP (lensTo F l.length) ps ps.length 0) (n := l.length) fun j hj => seen_all HP.out hj)
            rw [HE.out]
            clear hblk hcle
            go_wp2_with fail
            go_ret
            exact ⟨ret_bool (by simp), hBel.out.trans (hbel.mono hz2)⟩
end Go.Proofs.Ytjniiiimkejkiaa
