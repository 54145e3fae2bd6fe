/-
  Contract of the reference's FanoMake, whole. Conditions: the list can be read as data.
-/
import Derived.Test.YteblkbgcnoepnaaRefFanoMake
namespace Go.Proofs.Yteblkbgcnoepnaa
open Go Go.RowKit Go.Dam
set_option linter.unusedVariables false
theorem isInts_zero0 (w : World) (B : Nat) : IsInts .i64 w B (.slice none 0 0) [] := isInts_zero w B none 0 (Nat.zero_le _)
theorem isBools_zero (w : World) (B : Nat) (A : Option Addr) (c : Nat) (hc : c ≤ maxLen) : IsBools w B (.slice A 0 c) [] :=
  ⟨A, c, rfl, Nat.zero_le _, hc, by simp, ⟨by simp, fun h => absurd h (by simp)⟩⟩
set_option maxRecDepth 100000 in
set_option maxHeartbeats 1000000 in
theorem refFanoMake_zero (b : Nat) (v : Value) (n1 m1 : Int) (ws1 : List Nat) (c1 : Int) (w : World) (B : Nat) (hB : B ≤ w.heap.size) (h : IsInts .i64 w B v []) (hb : b ≤ 1048576) (hP : PackR 0 [] n1 m1 ws1 c1) :
    Calls Try.prog 28 #[.int .i64 b, v] w (GivesFano b n1 m1 ws1 0 (packW (highF 0 [] 0 0) ((0 + 63) / 64) 0) 0 w) := by
  have HH0 : Hid (highF 0 [] 0 0 = []) := Lib.hid (by rw [highF_0]; rfl)
  obtain ⟨ws2, hws2⟩ : ∃ x, x = packW (highF 0 [] 0 0) ((0 + 63) / 64) 0 := ⟨_, rfl⟩
  have HWR : Hid (ws2 = packW [] ((0 + 63) / 64) 0) := Lib.hid (by rw [hws2, HH0.out])
  rw [← hws2]
  clear hws2 HH0
  have HP := Lib.hid hP
  obtain ⟨A, c, hv, hc, hm, _, _, _⟩ := h
  obtain rfl : v = .slice A 0 c := hv
  have g2 : decide ((b : Int) < 0) = false := decide_eq_false (by omega)
  have g3 : decide ((1048576 : Int) < (b : Int)) = false := decide_eq_false (by omega)
  have HA := Lib.hid ((Below.refl w.heap.size w).alloc (Nat.le_refl _) (.cells #[.int .i64 0, .int .i64 0, .int .i64 0, .slice none 0 0, .int .i64 0, .slice none 0 0] 45))
  have HBk := Lib.hid (Blk.new w 45 #[.int .i64 0, .int .i64 0, .int .i64 0, .slice none 0 0, .int .i64 0, .slice none 0 0])
  clear hP
  go_enter Try.func28, Try.ntmps28
  go_wp2_with fail
  go_loop [32] (fun iv => iv = .int .i64 0) (fun _ => 0)
  case atStart => rfl
  case round =>
    obtain rfl := hrel
    go_wp2_with fail
    go_loop [8, 9] (fun wv kv => ∃ k : Nat, 1 ≤ k ∧ k ≤ 21 ∧ kv = .int .i64 k ∧ wv = .int .i64 0) (fun _ kv => 21 - (intOf kv).toNat)
    case atStart => exact ⟨1, by omega, by omega, rfl, rfl⟩
    case round =>
      obtain ⟨k, hk1, hk2, rfl, rfl⟩ := hrel
      by_cases hk : k < 21
      · go_wp2_with fail
        go_round
        case rel => exact ⟨k + 1, by omega, by omega, by go_num, rfl⟩
        case measure => simp [intOf]; omega
      · obtain rfl : k = 21 := by omega
        go_wp2_with fail
        go_loop [11, 92] (fun lv iv => iv = .int .i64 0 ∧ lv = .slice none 0 0) (fun _ _ => 0)
        case atStart => exact ⟨rfl, rfl⟩
        case round =>
          obtain ⟨rfl, rfl⟩ := hrel
          have HRes := Lib.hid (HBk.out.alloc (.cells #[] 4))
          have HBe := Lib.hid (HA.out.alloc (by simp) (.cells #[] 4))
          have hz : w.heap.size + 1 + 1 ≤ ((w.alloc (.cells #[.int .i64 0, .int .i64 0, .int .i64 0, .slice none 0 0, .int .i64 0, .slice none 0 0] 45)).alloc (.cells #[] 4)).heap.size := by simp
          have HPm := Lib.hid (refPackMake_any (.slice none 0 0) 0 [] n1 m1 ws1 c1 ((w.alloc (.cells #[.int .i64 0, .int .i64 0, .int .i64 0, .slice none 0 0, .int .i64 0, .slice none 0 0] 45)).alloc (.cells #[] 4)) _ (Nat.le_refl _) (isInts_zero0 _ _) (by simp) (by omega) HP.out)
          generalize ((w.alloc (.cells #[.int .i64 0, .int .i64 0, .int .i64 0, .slice none 0 0, .int .i64 0, .slice none 0 0] 45)).alloc (.cells #[] 4)) = wr at *
          have hzr := hz
          go_upto_region 29 with (go_at_call 59; refine (HPm.out).mono ?_; rintro e w2 ⟨s1, rfl, ⟨A1, p1, rfl, h1⟩, hb2⟩; have HW1 : Hid (IsWords w2 w2.heap.size (.slice A1 ws1.length p1) ws1) := Lib.hid ⟨A1, p1, rfl, h1⟩; clear h1; have hz2 := hb2.size; have HB2' := Lib.hid hb2; clear hb2)
          have hb2 := HB2'.out
          have HR3 := Lib.hid ((HRes.out.below hb2 (by omega)).alloc (.cells #[.int .i64 n1, .int .i64 m1, .slice A1 ws1.length p1] 43))
          have HW3 := Lib.hid ((HW1.out.below ((Below.refl _ _).alloc (Nat.le_refl _) (.cells #[.int .i64 n1, .int .i64 m1, .slice A1 ws1.length p1] 43))).more (show w2.heap.size ≤ (w2.alloc (.cells #[.int .i64 n1, .int .i64 m1, .slice A1 ws1.length p1] 43)).heap.size by simp))
          have HB3 := Lib.hid ((HBe.out.trans (hb2.mono (by omega))).alloc (by omega) (.cells #[.int .i64 n1, .int .i64 m1, .slice A1 ws1.length p1] 43))
          have HP3 := Lib.hid (Blk.new w2 43 #[.int .i64 n1, .int .i64 m1, .slice A1 ws1.length p1])
          have hsz3 : (w2.alloc (.cells #[.int .i64 n1, .int .i64 m1, .slice A1 ws1.length p1] 43)).heap.size = w2.heap.size + 1 := by simp
          clear hb2 HB2' HW1
          generalize w2.alloc (.cells #[.int .i64 n1, .int .i64 m1, .slice A1 ws1.length p1] 43) = w3 at *
          have HMk : Hid (Calls Try.prog 52 #[.slice (some ⟨w.heap.size + 1, 0, none⟩) 0 0] w3 (GivesRow 0 (packW [] ((0 + 63) / 64) 0) 0 w3)) := Lib.hid (refMake_any _ [] w3 _ (Nat.le_refl _) (isBools_zero _ _ _ _ (Nat.zero_le _)) (by simp))
          rw [← HWR.out] at HMk
          go_wp2_with (go_at_call 52; refine (HMk.out).mono ?_; rintro e w4 ⟨s2, rfl, ⟨A2', p2, rfl, h2⟩, hb4⟩; have HW4 : Hid (IsWords w4 w4.heap.size (.slice A2' ws2.length p2) ws2) := Lib.hid ⟨A2', p2, rfl, h2⟩; clear h2; have hz4 := hb4.size; have hlt2 : w2.heap.size < w4.heap.size := (by omega); have hlt3 : w.heap.size < w4.heap.size := (by omega); have HR4 := Lib.hid (HR3.out.below hb4 HR3.out.lt); have HP4 := Lib.hid (HP3.out.below hb4 HP3.out.lt); have HW1 := Lib.hid ((HW3.out.below hb4).more hz4); have HB4 := Lib.hid (HB3.out.trans (hb4.mono HB3.out.size)); have j0 := HP4.out.cell 0; have j1 := HP4.out.cell 1; have j2 := HP4.out.cell 2; have r0 := HR4.out.cell 0; have r1 := HR4.out.cell 1; have r2 := HR4.out.cell 2; have r3 := HR4.out.cell 3; have r4 := HR4.out.cell 4; have r5 := HR4.out.cell 5; have q0 := HR4.out.frozen 0; have q1 := HR4.out.frozen 1; have q2 := HR4.out.frozen 2; have q3 := HR4.out.frozen 3; have q4 := HR4.out.frozen 4; have q5 := HR4.out.frozen 5; clear hb4)
          have hr6 := res6 (a0 := .int .i64 b) (a1 := .int .i64 n1) (a2 := .int .i64 m1) (a3 := .slice A1 ws1.length p1) (a4 := .int .i64 0) (a5 := .slice A2' ws2.length p2) HR4.out
          have hs1 := HW1.out.six (a0 := .int .i64 b) (a1 := .int .i64 n1) (a2 := .int .i64 m1) (a3 := .slice A1 ws1.length p1) (a4 := .int .i64 0) (a5 := .slice A2' ws2.length p2) HR4.out (by intro n e; simp at e) (by intro n e; simp at e) (by intro n e; simp at e) (by intro n e; simp at e) (by intro n e; simp at e) (by intro n e; simp at e)
          have hs2 := HW4.out.six (a0 := .int .i64 b) (a1 := .int .i64 n1) (a2 := .int .i64 m1) (a3 := .slice A1 ws1.length p1) (a4 := .int .i64 0) (a5 := .slice A2' ws2.length p2) HR4.out (by intro n e; simp at e) (by intro n e; simp at e) (by intro n e; simp at e) (by intro n e; simp at e) (by intro n e; simp at e) (by intro n e; simp at e)
          have hb6 := below6 (a0 := .int .i64 b) (a1 := .int .i64 n1) (a2 := .int .i64 m1) (a3 := .slice A1 ws1.length p1) (a4 := .int .i64 0) (a5 := .slice A2' ws2.length p2) HB4.out (Nat.le_refl w.heap.size)
          have hsz6 : (((((((w4.setCell ⟨w.heap.size, 0, none⟩ (.int .i64 b)).setCell ⟨w.heap.size, 1, none⟩ (.int .i64 n1)).setCell ⟨w.heap.size, 2, none⟩ (.int .i64 m1)).setCell ⟨w.heap.size, 3, none⟩ (.slice A1 ws1.length p1)).setCell ⟨w.heap.size, 4, none⟩ (.int .i64 0)).setCell ⟨w.heap.size, 5, none⟩ (.slice A2' ws2.length p2))).heap.size = w4.heap.size := by simp
          have HS6 := Lib.hid hsz6
          rw [← HS6.out] at hs1 hs2
          clear hsz6 j0 j1 j2 r0 r1 r2 r3 r4 r5 q0 q1 q2 q3 q4 q5
          generalize ((((((w4.setCell ⟨w.heap.size, 0, none⟩ (.int .i64 b)).setCell ⟨w.heap.size, 1, none⟩ (.int .i64 n1)).setCell ⟨w.heap.size, 2, none⟩ (.int .i64 m1)).setCell ⟨w.heap.size, 3, none⟩ (.slice A1 ws1.length p1)).setCell ⟨w.heap.size, 4, none⟩ (.int .i64 0)).setCell ⟨w.heap.size, 5, none⟩ (.slice A2' ws2.length p2)) = w6 at *
          have hr7 := hr6.alloc (.cells #[.int .i64 0, .slice A2' ws2.length p2] 24)
          have ht1 := (hs1.below ((Below.refl _ _).alloc (Nat.le_refl _) (.cells #[.int .i64 0, .slice A2' ws2.length p2] 24))).more (show w6.heap.size ≤ (w6.alloc (.cells #[.int .i64 0, .slice A2' ws2.length p2] 24)).heap.size by simp)
          have ht2 := (hs2.below ((Below.refl _ _).alloc (Nat.le_refl _) (.cells #[.int .i64 0, .slice A2' ws2.length p2] 24))).more (show w6.heap.size ≤ (w6.alloc (.cells #[.int .i64 0, .slice A2' ws2.length p2] 24)).heap.size by simp)
          have hb7 := hb6.alloc hb6.size (.cells #[.int .i64 0, .slice A2' ws2.length p2] 24)
          clear hr6 hs1 hs2 hb6
          generalize w6.alloc (.cells #[.int .i64 0, .slice A2' ws2.length p2] 24) = w7 at *
          have c0 := hr7.cell 0
          have c1' := hr7.cell 1
          have c2' := hr7.cell 2
          have c3 := hr7.cell 3
          have c4 := hr7.cell 4
          have c5 := hr7.cell 5
          exact bodyPost_ret (v := .tuple #[.agg #[.int .i64 b, .int .i64 n1, .int .i64 m1, .slice A1 ws1.length p1, .int .i64 0, .slice A2' ws2.length p2], .int .i64 0]) (by simp [results, Try.results28, go_sem, c0, c1', c2', c3, c4, c5]) rfl ⟨_, _, rfl, ht1, ht2, hb7⟩
theorem refFanoMake_any (bound : Int) (v : Value) (l : List Int) (bd n1 m1 : Int) (ws1 : List Nat) (n2 : Int) (ws2 : List Nat) (cc : Int) (w : World) (B : Nat) (hB : B ≤ w.heap.size) (hb64 : I64 bound) (h : IsInts .i64 w B v l)
    (hR : FanoR bound l bd n1 m1 ws1 n2 ws2 cc (fun W l n m ws => ∃ c, PackR W l n m ws c)) :
    Calls Try.prog 28 #[.int .i64 bound, v] w (GivesFano bd n1 m1 ws1 n2 ws2 cc w) := by
  rcases hR with ⟨_, rfl, rfl, rfl, rfl, rfl, rfl, hR | hR | ⟨hl, hb0, hb1, hok, rfl⟩⟩ | ⟨rfl, hl, hok, b, W, rfl, hb, hW, rfl, ⟨c1, hP⟩, rfl, rfl⟩
  · exact refFanoMake_bad bound v l cc w B hB hb64 h (.inl hR)
  · exact refFanoMake_bad bound v l cc w B hB hb64 h (.inr hR)
  · have h0 : 0 < l.length := by
      apply Classical.byContradiction
      intro h0
      exact hok (fun i hi => absurd hi (by omega))
    obtain ⟨b, rfl⟩ : ∃ b : Nat, bound = b := ⟨bound.toNat, by omega⟩
    obtain ⟨W, hW⟩ := WidF.ex b l.length
    exact refFanoMake_rest b v l 0 0 0 [] 0 [] 4 W w B hB h hl h0 (by omega) hW (.inl ⟨hok, rfl, rfl, rfl, rfl, rfl, rfl, rfl⟩)
  · rcases Nat.eq_zero_or_pos l.length with h0 | h0
    · obtain rfl : l = [] := List.length_eq_zero_iff.1 h0
      obtain rfl : W = 0 := by
        have h1 : WidF b 0 0 := by unfold WidF; exact .inl ⟨rfl, rfl⟩
        exact WidF.uniq hW h1
      have e : lowF 0 [] = [] := List.eq_nil_of_length_eq_zero (by rw [lowF_length]; rfl)
      rw [e] at hP
      exact refFanoMake_zero b v n1 m1 ws1 c1 w B hB h hb hP
    · exact refFanoMake_rest b v l _ _ _ _ _ _ _ W w B hB h hl h0 hb hW (.inr ⟨hok, rfl, ⟨c1, hP⟩, rfl, rfl, rfl⟩)
end Go.Proofs.Yteblkbgcnoepnaa
