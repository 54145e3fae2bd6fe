/-
  Contract of the reference's FanoMake. Conditions: the list can be read as data.
-/
import Derived.Test.YteblkbgcnoepnaaFanoMakeAny
import Derived.Test.YteblkbgcnoepnaaRefPackMake
import Derived.Test.YteblkbgcnoepnaaRefBitsMake
namespace Go.Dam
open Go Go.RowKit
set_option linter.unusedVariables false
/-- Is the number at i in order? -/
def OkAt (bound : Int) (l : List Int) (i : Nat) : Prop := 0 ≤ l.getD i 0 ∧ l.getD i 0 ≤ bound ∧ (0 < i → l.getD (i - 1) 0 ≤ l.getD i 0)
end Go.Dam
namespace Go.Proofs.Yteblkbgcnoepnaa
open Go Go.RowKit Go.Dam
set_option linter.unusedVariables false
set_option maxRecDepth 100000 in
set_option maxHeartbeats 1000000 in
theorem refFanoMake_bad (bound : Int) (v : Value) (l : List Int) (cc : Int) (w : World) (B : Nat) (hB : B ≤ w.heap.size) (hb64 : I64 bound) (h : IsInts .i64 w B v l)
    (hR : (300 < l.length ∧ cc = 1) ∨ (l.length ≤ 300 ∧ (bound < 0 ∨ (¬ bound < 0 ∧ 1048576 < bound)) ∧ cc = 2)) :
    Calls Try.prog 28 #[.int .i64 bound, v] w (GivesFano 0 0 0 [] 0 [] cc w) := by
  unfold I64 at hb64
  obtain ⟨A, c, rfl, hc, hm, hb, hr, hw⟩ := h
  have HA := Lib.hid ((Below.refl w.heap.size w).alloc (Nat.le_refl _) (.cells #[.int .i64 0, .int .i64 0, .int .i64 0, .slice none 0 0, .int .i64 0, .slice none 0 0] 45))
  rcases hR with ⟨hl, rfl⟩ | ⟨hl, hbd, rfl⟩
  · clear hr hw
    go_enter Try.func28, Try.ntmps28
    go_wp2_with fail
    exact bodyPost_ret (v := .tuple #[.agg #[.int .i64 0, .int .i64 0, .int .i64 0, .slice none 0 0, .int .i64 0, .slice none 0 0], .int .i64 1]) (by simp [results, Try.results28, go_sem]) rfl ⟨_, _, rfl, isWords_nil _ _, isWords_nil _ _, HA.out⟩
  · clear hr hw
    rcases hbd with h1 | ⟨h1, h2⟩
    all_goals
      go_enter Try.func28, Try.ntmps28
      go_wp2_with fail
      exact bodyPost_ret (v := .tuple #[.agg #[.int .i64 0, .int .i64 0, .int .i64 0, .slice none 0 0, .int .i64 0, .slice none 0 0], .int .i64 2]) (by simp [results, Try.results28, go_sem]) rfl ⟨_, _, rfl, isWords_nil _ _, isWords_nil _ _, HA.out⟩
set_option maxRecDepth 100000 in
set_option maxHeartbeats 2000000 in
theorem refFanoMake_rest (b : Nat) (v : Value) (l : List Int) (bd n1 m1 : Int) (ws1 : List Nat) (n2 : Int) (ws2 : List Nat) (cc : Int) (W : Nat) (w : World) (B : Nat) (hB : B ≤ w.heap.size) (h : IsInts .i64 w B v l) (hl : l.length ≤ 300) (h0 : 0 < l.length) (hb : b ≤ 1048576) (hW : WidF b l.length W)
    (hR : (¬ OkF b l ∧ bd = 0 ∧ n1 = 0 ∧ m1 = 0 ∧ ws1 = [] ∧ n2 = 0 ∧ ws2 = [] ∧ cc = 4) ∨ (OkF b l ∧ bd = b ∧ (∃ c, PackR W (lowF W l) n1 m1 ws1 c) ∧ n2 = lenF b l.length W ∧ ws2 = packW (highF W l (lenF b l.length W) l.length) ((lenF b l.length W + 63) / 64) (lenF b l.length W) ∧ cc = 0)) :
    Calls Try.prog 28 #[.int .i64 b, v] w (GivesFano bd n1 m1 ws1 n2 ws2 cc w) := by
  have hW20 := hW.le hb
  have HI := Lib.hid h
  have HW := Lib.hid hW
  have HR := Lib.hid hR
  obtain ⟨A, c, rfl, hc, hm, hbb, hr, hw⟩ := h
  have g1 : decide ((300 : Int) < (l.length : Int)) = false := decide_eq_false (by omega)
  have g2 : decide ((b : Int) < 0) = false := decide_eq_false (by omega)
  have g3 : decide ((1048576 : Int) < (b : Int)) = false := decide_eq_false (by omega)
  have HA := Lib.hid ((Below.refl w.heap.size w).alloc (Nat.le_refl _) (.cells #[.int .i64 0, .int .i64 0, .int .i64 0, .slice none 0 0, .int .i64 0, .slice none 0 0] 45))
  have HBk := Lib.hid (Blk.new w 45 #[.int .i64 0, .int .i64 0, .int .i64 0, .slice none 0 0, .int .i64 0, .slice none 0 0])
  clear hR hW
  go_enter Try.func28, Try.ntmps28
  go_wp2_with fail
  go_loop [32] (fun iv => ∃ i : Nat, i ≤ l.length ∧ iv = .int .i64 i ∧ ∀ j, j < i → OkAt b l j) (fun iv => l.length - (intOf iv).toNat)
  case atStart => exact ⟨0, by omega, rfl, fun j hj => absurd hj (by omega)⟩
  case round =>
    obtain ⟨i, hi, rfl, hall⟩ := hrel
    have HAll := Lib.hid hall
    clear hall
    by_cases hlt : i < l.length
    · obtain ⟨bb, off, rfl, hbB, hcells⟩ := ints_cells hr (by omega)
      have k2 := hcells i hlt
      have k1 := hcells (i - 1) (by omega)
      have hbw : bb < w.heap.size := by omega
      have hxm : I64 (l.getD i 0) := wf_i64 (hw _ (by rw [List.getD_eq_getElem?_getD, List.getElem?_eq_getElem hlt]; exact List.getElem_mem _))
      unfold I64 at hxm
      by_cases hok : OkAt b l i
      · have HOk : Hid (∀ j, j < i + 1 → OkAt b l j) := Lib.hid fun j hj => by
          rcases Nat.lt_or_eq_of_le (Nat.le_of_lt_succ hj) with g | g
          · exact HAll.out j g
          · rw [g]; exact hok
        obtain ⟨ha, hb2, hc2⟩ := hok
        have e1 : decide (l.getD i 0 < 0) = false := decide_eq_false (by omega)
        have e2 : decide ((b : Int) < l.getD i 0) = false := decide_eq_false (by omega)
        rcases Nat.eq_zero_or_pos i with h0 | h0
        · have g4 : decide ((0 : Int) < (i : Int)) = false := decide_eq_false (by omega)
          have g4' : ¬ (0 : Int) < (i : Int) := by omega
          clear hcells k1 hc2
          generalize l.getD i 0 = x at *
          have HI0 := Lib.hid h0
          clear h0
          go_wp2_with fail
          go_round
          case rel => exact ⟨i + 1, by omega, by go_num, HOk.out⟩
          case measure => simp [intOf]; omega
        · have hc3 := hc2 h0
          have hii : (i : Int) - 1 = ((i - 1 : Nat) : Int) := by omega
          have hil : i - 1 < l.length := by omega
          have h0' : (0 : Int) < (i : Int) := by omega
          have e3 : decide (l.getD i 0 < l.getD (i - 1) 0) = false := decide_eq_false (by omega)
          clear hcells hc2
          generalize l.getD i 0 = x at *
          generalize l.getD (i - 1) 0 = y at *
          generalize i - 1 = i1 at *
          go_wp2_with fail
          go_round
          case rel => exact ⟨i + 1, by omega, by go_num, HOk.out⟩
          case measure => simp [intOf]; omega
      · have hres : bd = 0 ∧ n1 = 0 ∧ m1 = 0 ∧ ws1 = [] ∧ n2 = 0 ∧ ws2 = [] ∧ cc = 4 := by
          rcases HR.out with ⟨_, h⟩ | ⟨h, _⟩
          · exact h
          · exact absurd (h i hlt) hok
        obtain ⟨rfl, rfl, rfl, rfl, rfl, rfl, rfl⟩ := hres
        have hbad : l.getD i 0 < 0 ∨ (¬ l.getD i 0 < 0 ∧ (b : Int) < l.getD i 0) ∨ (¬ l.getD i 0 < 0 ∧ ¬ (b : Int) < l.getD i 0 ∧ 0 < i ∧ l.getD i 0 < l.getD (i - 1) 0) := by
          by_cases h1 : l.getD i 0 < 0
          · exact .inl h1
          · by_cases h2 : (b : Int) < l.getD i 0
            · exact .inr (.inl ⟨h1, h2⟩)
            · refine .inr (.inr ⟨h1, h2, ?_⟩)
              apply Classical.byContradiction
              intro h3
              exact hok ⟨by omega, by omega, fun h4 => by
                apply Classical.byContradiction
                intro h5
                exact h3 ⟨h4, by omega⟩⟩
        have hii : 0 < i → (i : Int) - 1 = ((i - 1 : Nat) : Int) := fun h => by omega
        have hil : i - 1 < l.length := by omega
        clear hcells hok HR HAll
        generalize l.getD i 0 = x at *
        generalize l.getD (i - 1) 0 = y at *
        generalize i - 1 = i1 at *
        rcases hbad with h1 | ⟨h1, h2⟩ | ⟨h1, h2, h3, h4⟩
        · go_wp2_with fail
          exact bodyPost_ret (v := .tuple #[.agg #[.int .i64 0, .int .i64 0, .int .i64 0, .slice none 0 0, .int .i64 0, .slice none 0 0], .int .i64 4]) (by simp [results, Try.results28, go_sem]) rfl ⟨_, _, rfl, isWords_nil _ _, isWords_nil _ _, HA.out⟩
        · go_wp2_with fail
          exact bodyPost_ret (v := .tuple #[.agg #[.int .i64 0, .int .i64 0, .int .i64 0, .slice none 0 0, .int .i64 0, .slice none 0 0], .int .i64 4]) (by simp [results, Try.results28, go_sem]) rfl ⟨_, _, rfl, isWords_nil _ _, isWords_nil _ _, HA.out⟩
        · have hi3 := hii h3
          have h3' : (0 : Int) < (i : Int) := by omega
          go_wp2_with fail
          exact bodyPost_ret (v := .tuple #[.agg #[.int .i64 0, .int .i64 0, .int .i64 0, .slice none 0 0, .int .i64 0, .slice none 0 0], .int .i64 4]) (by simp [results, Try.results28, go_sem]) rfl ⟨_, _, rfl, isWords_nil _ _, isWords_nil _ _, HA.out⟩
    · obtain rfl : i = l.length := by omega
      have hok : OkF b l := fun j hj => HAll.out j hj
      have hres : bd = b ∧ (∃ c, PackR W (lowF W l) n1 m1 ws1 c) ∧ n2 = lenF b l.length W ∧ ws2 = packW (highF W l (lenF b l.length W) l.length) ((lenF b l.length W + 63) / 64) (lenF b l.length W) ∧ cc = 0 := by
        rcases HR.out with ⟨h, _⟩ | ⟨_, h⟩
        · exact absurd hok h
        · exact h
      obtain ⟨rfl, ⟨c1, hP⟩, rfl, rfl, rfl⟩ := hres
      have HP := Lib.hid hP
      have HOk := Lib.hid hok
      clear HR HAll hok hP
      go_wp2_with fail
      go_loop [8, 9] (fun wv kv => ∃ k : Nat, 1 ≤ k ∧ k ≤ 21 ∧ kv = .int .i64 k ∧ wv = .int .i64 ((min W (k - 1) : Nat) : Int)) (fun _ kv => 21 - (intOf kv).toNat)
      case atStart => exact ⟨1, by omega, by omega, rfl, by rw [Nat.sub_self, Nat.min_zero]; rfl⟩
      case round =>
        obtain ⟨k, hk1, hk2, rfl, rfl⟩ := hrel
        by_cases hk : k < 21
        · obtain ⟨Qk, hQk⟩ : ∃ Qk : Nat, Qk = 2 ^ k := ⟨_, rfl⟩
          have hQb : Qk ≤ 1048576 := by
            have h1 : 2 ^ k ≤ 2 ^ 20 := Nat.pow_le_pow_right (by decide) (by omega)
            omega
          have hpi : (2 : Int) ^ k = (Qk : Int) := by rw [hQk]; simp
          have hMl : l.length * Qk ≤ 300 * 1048576 := Nat.mul_le_mul hl hQb
          obtain ⟨M, hM⟩ : ∃ M, M = l.length * Qk := ⟨_, rfl⟩
          have hMi : (l.length : Int) * (Qk : Int) = (M : Int) := by rw [hM]; simp
          have hlp : (0 : Int) < (l.length : Int) := by omega
          rw [← hM] at hMl
          by_cases hkW : k ≤ W
          · have hle : M ≤ b := by rw [hM, hQk]; exact HW.out.below h0 hkW hk1
            have HE : Hid (min W (k + 1 - 1) = k) := Lib.hid (by rw [Nat.add_sub_cancel]; exact Nat.min_eq_right hkW)
            clear hQk hM
            go_wp2_with fail
            go_round
            case rel => exact ⟨k + 1, by omega, by omega, by go_num, by rw [HE.out]⟩
            case measure => simp [intOf]; omega
          · have hgt : ¬ M ≤ b := by
              have := HW.out.above h0 (show W < k by omega)
              rw [hM, hQk]; exact Nat.not_le.2 this
            have HE : Hid (min W (k + 1 - 1) = min W (k - 1)) := Lib.hid (by rw [Nat.min_eq_left (by omega), Nat.min_eq_left (by omega)])
            clear hQk hM
            generalize min W (k - 1) = mw at *
            go_wp2_with fail
            go_round
            case rel => exact ⟨k + 1, by omega, by omega, by go_num, by rw [HE.out]⟩
            case measure => simp [intOf]; omega
        · obtain rfl : k = 21 := by omega
          rw [show min W (21 - 1) = W from Nat.min_eq_left hW20]
          obtain ⟨Q, hQ⟩ : ∃ Q : Nat, Q = 2 ^ W := ⟨_, rfl⟩
          have hQb : Q ≤ 1048576 := by
            have h1 : 2 ^ W ≤ 2 ^ 20 := Nat.pow_le_pow_right (by decide) hW20
            omega
          have hQ0 : 0 < Q := by rw [hQ]; exact Nat.pow_pos (by decide)
          have hpi : (2 : Int) ^ W = (Q : Int) := by rw [hQ]; simp
          obtain ⟨D, hD⟩ : ∃ D : Nat, D = b / Q := ⟨_, rfl⟩
          have hdb : (b : Int) / (Q : Int) = (D : Int) := by rw [hD]; simp
          have hhi := HW.out.high h0
          have hD600 : D < 600 := by rw [hD, hQ]; omega
          have hlp' : (0 : Int) < (l.length : Int) := by omega
          have HN : Hid (lenF b l.length W = D + l.length + 1) := Lib.hid (by unfold lenF; rw [if_neg (by omega), hD, hQ])
          have HD := Lib.hid hD
          have HQ := Lib.hid hQ
          have hmk1 := fun w' => run_make1 el_bool rfl ((D : Int) + (l.length : Int) + 1) (D + l.length + 1) (by omega) (by omega) (by omega) w'
          simp only [falsesV_eq] at hmk1
          clear hD hQ hhi
          go_wp2_with fail
          go_loopw [11, 92] (fun lv iv wr => ∃ i : Nat, i ≤ l.length ∧ iv = .int .i64 i ∧ wr.ownsRow (w.heap.size + 1 + 1 + 1) 3 1 lv i (((lowF W l).take i).map (Value.int .i64)) ∧ Blk wr (w.heap.size + 1 + 1) 4 (((highF W l (D + l.length + 1) i).map Value.bool).toArray) ∧ Blk wr w.heap.size 45 #[.int .i64 0, .int .i64 0, .int .i64 0, .slice none 0 0, .int .i64 0, .slice none 0 0] ∧ Below w.heap.size w wr) (fun _ iv _ => l.length - (intOf iv).toNat)
          case atStart => exact ⟨0, by omega, rfl, by rw [List.take_zero]; exact World.ownsRow_nil _ _ _ _, by rw [highF_0, falses_arr]; exact Blk.new_at _ _ _ _ (by simp), (HBk.out.alloc _).alloc _, (HA.out.alloc (by simp) _).alloc (by simp; omega) _⟩
          case round =>
            obtain ⟨i, hi, rfl, hown, hhi, hres, hbel⟩ := hrel
            obtain ⟨A2, c2, rfl⟩ := own_shape hown
            have HO := Lib.hid hown
            have HHi := Lib.hid hhi
            have HRes := Lib.hid hres
            have HBe := Lib.hid hbel
            have hz := hhi.lt
            by_cases hlt : i < l.length
            · obtain ⟨hxa, hxb, _⟩ := HOk.out i hlt
              obtain ⟨bb, off, rfl, hbB, hcells⟩ := ints_cells hr (by omega)
              obtain ⟨x, hx⟩ : ∃ x : Nat, l.getD i 0 = x := ⟨(l.getD i 0).toNat, by omega⟩
              have hxb2 : x ≤ b := by omega
              have k2 := (hbel.cell (p := ⟨bb, off + i, none⟩) (by simp; omega)).trans (hcells i hlt)
              rw [hx] at k2
              obtain ⟨E, hE⟩ : ∃ E : Nat, E = x / Q := ⟨_, rfl⟩
              have hxd : (x : Int) / (Q : Int) = (E : Int) := by rw [hE]; simp
              have hED : E ≤ D := by rw [hE, HD.out]; exact Nat.div_le_div_right hxb2
              have khi : ∃ y, wr.cell? ⟨w.heap.size + 1 + 1, E + i, none⟩ = some (.bool y) := by
                rw [hhi.cell]
                have h1 : E + i < (highF W l (D + l.length + 1) i).length := by rw [highF_length]; omega
                exact ⟨(highF W l (D + l.length + 1) i)[E + i], by simp [h1]⟩
              obtain ⟨y, khi⟩ := khi
              have KHi : Hid ((((highF W l (D + l.length + 1) i).map Value.bool).toArray)[E + i]? = some (.bool y)) := Lib.hid (by rw [← hhi.cell]; exact khi)
              have HEL : Hid (((lowF W l).take i).map (Value.int .i64) ++ [.int .i64 ((x : Int) % (Q : Int))] = ((lowF W l).take (i + 1)).map (Value.int .i64)) := Lib.hid (by rw [lowF_take W l hlt, List.map_append, hx, hpi]; rfl)
              have HEH : Hid ((((highF W l (D + l.length + 1) i).map Value.bool).toArray).setIfInBounds (E + i) (.bool true) = ((highF W l (D + l.length + 1) (i + 1)).map Value.bool).toArray) := Lib.hid (by rw [bools_set, highF_succ, hx, Int.toNat_natCast, hE, HQ.out])
              have hEi : (E : Int) + (i : Int) < ((D + l.length + 1 : Nat) : Int) := by omega
              clear hown hhi hres hbel hx hE hxa hxb hcells khi
              go_wp2_with (at_builtin; refine wpList_push el_int rfl (.tmp 97) (.tmp 101) rfl (w.heap.size + 1 + 1 + 1) (.slice A2 i c2) i _ (HO.out.alloc _) rfl wr.heap.size 1 _ rfl (new_cell (by simp)) rfl (by omega) (by omega) (by simp; omega) ?_; intro v' w3 hown3 hg3; have hhi3 := (HHi.out.alloc _).grown hg3 (Ne.symm (own_ne HO.out (by omega))); have k5 := (hhi3.cell (E + i)).trans KHi.out; have f5 := hhi3.frozen (E + i); have HHi3 := Lib.hid hhi3; have HOw3 := Lib.hid hown3; have HG3 := Lib.hid hg3; clear hhi3 hown3 hg3)
              have ho4 := ownsRow_setCell_below HOw3.out (a := ⟨w.heap.size + 1 + 1, E + i, none⟩) (by simp) (.bool true)
              have hh4 := HHi3.out.set_ (E + i) (.bool true)
              rw [HEH.out] at hh4
              rw [HEL.out] at ho4
              have hr4 := ((HRes.out.alloc _).grown HG3.out (Ne.symm (own_ne HO.out (by omega)))).far (p := ⟨w.heap.size + 1 + 1, E + i, none⟩) (by simp; omega) (.bool true)
              have hb4 := (below_push (HBe.out.alloc (by omega) _) (HO.out.alloc _) (by omega) (by simp; omega) HG3.out).setCell (p := ⟨w.heap.size + 1 + 1, E + i, none⟩) (by simp; omega) (.bool true)
              exact ⟨⟨i + 1, by omega, by go_num, ho4, hh4, hr4, hb4⟩, by simp [intOf]; omega⟩
            · obtain rfl : i = l.length := by omega
              have hll := lowF_length W l
              rw [List.take_of_length_le (by rw [hll]; exact Nat.le_refl _)] at hown
              have hIl := own_ints hown (by rw [hll]; omega) (fun z hz => by
                have := lowF_mem hz
                rw [hpi] at this
                simp [Lit.wf, IntKind.min, IntKind.max, IntKind.signed, IntKind.bits]; omega)
              have HPm := Lib.hid (refPackMake_any (.slice A2 l.length c2) W (lowF W l) n1 m1 ws1 c1 wr wr.heap.size (Nat.le_refl _) hIl (by rw [hll]; exact hl) (by omega) HP.out)
              have HHl := Lib.hid (highF_length W l (D + l.length + 1) l.length)
              clear hown hhi hres hbel hll hIl HOk
              generalize hHH : highF W l (D + l.length + 1) l.length = H at *
              have HHH := Lib.hid hHH
              clear hHH
              go_upto_region 29 with (go_at_call 59; refine (HPm.out).mono ?_; rintro e w2 ⟨s1, rfl, ⟨A1, p1, rfl, h1⟩, hb2⟩; have HW1 : Hid (IsWords w2 w2.heap.size (.slice A1 ws1.length p1) ws1) := Lib.hid ⟨A1, p1, rfl, h1⟩; clear h1; have hz2 := hb2.size; have HB2' := Lib.hid hb2; clear hb2)
              have hb2 := HB2'.out
              have HH3 := Lib.hid ((HHi.out.below hb2 hz).alloc (.cells #[.int .i64 n1, .int .i64 m1, .slice A1 ws1.length p1] 43))
              have HR3 := Lib.hid ((HRes.out.below hb2 (by omega)).alloc (.cells #[.int .i64 n1, .int .i64 m1, .slice A1 ws1.length p1] 43))
              have HW3 := Lib.hid ((HW1.out.below ((Below.refl _ _).alloc (Nat.le_refl _) (.cells #[.int .i64 n1, .int .i64 m1, .slice A1 ws1.length p1] 43))).more (show w2.heap.size ≤ (w2.alloc (.cells #[.int .i64 n1, .int .i64 m1, .slice A1 ws1.length p1] 43)).heap.size by simp))
              have HB3 := Lib.hid ((HBe.out.trans (hb2.mono (by omega))).alloc (by omega) (.cells #[.int .i64 n1, .int .i64 m1, .slice A1 ws1.length p1] 43))
              have HP3 := Lib.hid (Blk.new w2 43 #[.int .i64 n1, .int .i64 m1, .slice A1 ws1.length p1])
              have hsz3 : (w2.alloc (.cells #[.int .i64 n1, .int .i64 m1, .slice A1 ws1.length p1] 43)).heap.size = w2.heap.size + 1 := by simp
              clear hb2 HB2' HW1
              generalize w2.alloc (.cells #[.int .i64 n1, .int .i64 m1, .slice A1 ws1.length p1] 43) = w3 at *
              have HMk := Lib.hid (refMake_any (.slice (some ⟨w.heap.size + 1 + 1, 0, none⟩) (D + l.length + 1) (D + l.length + 1)) H w3 _ (Nat.le_refl _) (blk_bools HH3.out HHl.out (by omega)) (by rw [HHl.out]; omega))
              rw [HHl.out] at HMk
              generalize hws2 : packW H ((D + l.length + 1 + 63) / 64) (D + l.length + 1) = ws2 at *
              have HWS := Lib.hid hws2
              clear hws2
              go_wp2_with (go_at_call 52; refine (HMk.out).mono ?_; rintro e w4 ⟨s2, rfl, ⟨A2', p2, rfl, h2⟩, hb4⟩; have HW4 : Hid (IsWords w4 w4.heap.size (.slice A2' ws2.length p2) ws2) := Lib.hid ⟨A2', p2, rfl, h2⟩; clear h2; have hz4 := hb4.size; have hlt2 : w2.heap.size < w4.heap.size := (by omega); have hlt3 : w.heap.size < w4.heap.size := (by omega); have HR4 := Lib.hid (HR3.out.below hb4 HR3.out.lt); have HP4 := Lib.hid (HP3.out.below hb4 HP3.out.lt); have HW1 := Lib.hid ((HW3.out.below hb4).more hz4); have HB4 := Lib.hid (HB3.out.trans (hb4.mono HB3.out.size)); have j0 := HP4.out.cell 0; have j1 := HP4.out.cell 1; have j2 := HP4.out.cell 2; have r0 := HR4.out.cell 0; have r1 := HR4.out.cell 1; have r2 := HR4.out.cell 2; have r3 := HR4.out.cell 3; have r4 := HR4.out.cell 4; have r5 := HR4.out.cell 5; have q0 := HR4.out.frozen 0; have q1 := HR4.out.frozen 1; have q2 := HR4.out.frozen 2; have q3 := HR4.out.frozen 3; have q4 := HR4.out.frozen 4; have q5 := HR4.out.frozen 5; clear hb4)
              have hr6 := res6 (a0 := .int .i64 b) (a1 := .int .i64 n1) (a2 := .int .i64 m1) (a3 := .slice A1 ws1.length p1) (a4 := .int .i64 ((D : Int) + (l.length : Int) + 1)) (a5 := .slice A2' ws2.length p2) HR4.out
              have hs1 := HW1.out.six (a0 := .int .i64 b) (a1 := .int .i64 n1) (a2 := .int .i64 m1) (a3 := .slice A1 ws1.length p1) (a4 := .int .i64 ((D : Int) + (l.length : Int) + 1)) (a5 := .slice A2' ws2.length p2) HR4.out (by intro n e; simp at e) (by intro n e; simp at e) (by intro n e; simp at e) (by intro n e; simp at e) (by intro n e; simp at e) (by intro n e; simp at e)
              have hs2 := HW4.out.six (a0 := .int .i64 b) (a1 := .int .i64 n1) (a2 := .int .i64 m1) (a3 := .slice A1 ws1.length p1) (a4 := .int .i64 ((D : Int) + (l.length : Int) + 1)) (a5 := .slice A2' ws2.length p2) HR4.out (by intro n e; simp at e) (by intro n e; simp at e) (by intro n e; simp at e) (by intro n e; simp at e) (by intro n e; simp at e) (by intro n e; simp at e)
              have hb6 := below6 (a0 := .int .i64 b) (a1 := .int .i64 n1) (a2 := .int .i64 m1) (a3 := .slice A1 ws1.length p1) (a4 := .int .i64 ((D : Int) + (l.length : Int) + 1)) (a5 := .slice A2' ws2.length p2) HB4.out (Nat.le_refl w.heap.size)
              have hsz6 : ((((((w4.setCell ⟨w.heap.size, 0, none⟩ (.int .i64 b)).setCell ⟨w.heap.size, 1, none⟩ (.int .i64 n1)).setCell ⟨w.heap.size, 2, none⟩ (.int .i64 m1)).setCell ⟨w.heap.size, 3, none⟩ (.slice A1 ws1.length p1)).setCell ⟨w.heap.size, 4, none⟩ (.int .i64 ((D : Int) + (l.length : Int) + 1))).setCell ⟨w.heap.size, 5, none⟩ (.slice A2' ws2.length p2)).heap.size = w4.heap.size := by simp
              have HS6 := Lib.hid hsz6
              rw [← HS6.out] at hs1 hs2
              clear hsz6 hmk1 j0 j1 j2 r0 r1 r2 r3 r4 r5 q0 q1 q2 q3 q4 q5
              rw [HN.out, HHH.out, HWS.out]
              have hcast : ((D + l.length + 1 : Nat) : Int) = (D : Int) + (l.length : Int) + 1 := by omega
              rw [hcast]
              clear hcast
              generalize ((((((w4.setCell ⟨w.heap.size, 0, none⟩ (.int .i64 b)).setCell ⟨w.heap.size, 1, none⟩ (.int .i64 n1)).setCell ⟨w.heap.size, 2, none⟩ (.int .i64 m1)).setCell ⟨w.heap.size, 3, none⟩ (.slice A1 ws1.length p1)).setCell ⟨w.heap.size, 4, none⟩ (.int .i64 ((D : Int) + (l.length : Int) + 1))).setCell ⟨w.heap.size, 5, none⟩ (.slice A2' ws2.length p2)) = w6 at *
              have hr7 := hr6.alloc (.cells #[.int .i64 ((D : Int) + (l.length : Int) + 1), .slice A2' ws2.length p2] 24)
              have ht1 := (hs1.below ((Below.refl _ _).alloc (Nat.le_refl _) (.cells #[.int .i64 ((D : Int) + (l.length : Int) + 1), .slice A2' ws2.length p2] 24))).more (show w6.heap.size ≤ (w6.alloc (.cells #[.int .i64 ((D : Int) + (l.length : Int) + 1), .slice A2' ws2.length p2] 24)).heap.size by simp)
              have ht2 := (hs2.below ((Below.refl _ _).alloc (Nat.le_refl _) (.cells #[.int .i64 ((D : Int) + (l.length : Int) + 1), .slice A2' ws2.length p2] 24))).more (show w6.heap.size ≤ (w6.alloc (.cells #[.int .i64 ((D : Int) + (l.length : Int) + 1), .slice A2' ws2.length p2] 24)).heap.size by simp)
              have hb7 := hb6.alloc hb6.size (.cells #[.int .i64 ((D : Int) + (l.length : Int) + 1), .slice A2' ws2.length p2] 24)
              clear hr6 hs1 hs2 hb6
              generalize w6.alloc (.cells #[.int .i64 ((D : Int) + (l.length : Int) + 1), .slice A2' ws2.length p2] 24) = w7 at *
              have c0 := hr7.cell 0
              have c1' := hr7.cell 1
              have c2' := hr7.cell 2
              have c3 := hr7.cell 3
              have c4 := hr7.cell 4
              have c5 := hr7.cell 5
              exact bodyPost_ret (v := .tuple #[.agg #[.int .i64 b, .int .i64 n1, .int .i64 m1, .slice A1 ws1.length p1, .int .i64 ((D : Int) + (l.length : Int) + 1), .slice A2' ws2.length p2], .int .i64 0]) (by simp [results, Try.results28, go_sem, c0, c1', c2', c3, c4, c5]) rfl ⟨_, _, rfl, ht1, ht2, hb7⟩
end Go.Proofs.Yteblkbgcnoepnaa
